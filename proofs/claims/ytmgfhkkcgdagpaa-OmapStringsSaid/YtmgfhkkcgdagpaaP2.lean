/-
  What holds behind code whatever the maps hand out; and what is left of a function's memory for its caller. Own work of this project.
-/
import Derived.Test.YtmgfhkkcgdagpaaP1
import Derived.Maps.RangeRun
import Derived.Test.YtmgfhkkcgdagpaaProg
import Derived.KernelRfl
import Derived.RangeFuncRecord
import Derived.RangeFuncCalls
import Derived.OrdersIn
import Derived.LoopNIn
set_option linter.unusedVariables false
set_option linter.unusedSimpArgs false
section
namespace Go.AM
open Go

variable {P : Program} {ρ : Ren}

/-! ### The next entry -/
theorem clean_or {w w1 : World} (h : w1 = w ∨ w1 = w.drew) : Clean w w1 := by
  rcases h with rfl | rfl
  · exact .refl _
  · exact clean_drew _
theorem run_next_none (w : World) (ty : TypeId) (r since c0 : Nat) (seen : Array Nat) (hr : w.heap[r]? = some (.mapIter none since seen c0)) : (Instr.next (.pointer (some ⟨r, 0, none⟩)) false ty).run P w = .ok (.tuple #[.bool false]) w := by
  simp [Instr.next, getObj, Sem.run, Sem.run_bind, hr]
theorem next_wp {o : Oper} {a : Act} {env : Env} {cl : Bool} {s : St} {w : World} {x : AO} {Ka : AV → St → Prop} {K : Act → World → Prop} {Q : Exit → Act → World → Prop} (hE : EnvR ρ env a.tmps) (hR : R s ρ w)
    (hop : cop P cl o.op = .nxt x) (h : anext (aev env x) s Ka) (hK : ∀ v s' w' c, Ka v s' → Step s s' ρ ρ w w' → R s' ρ w' → VR ρ v c → K (a.put o.dst c) w') : o.wp P a w K Q := by
  obtain ⟨hok, hc⟩ := cop_ok (P := P) (cl := cl) (op := o.op) (by rw [hop]; simp)
  rw [hc] at hop
  cases ho : o.op with
  | next it str =>
    rw [ho] at hop hok
    simp only [cop0] at hop
    split at hop
    · cases hop
    · rename_i hstr
      injection hop with hop; subst hop
      have hx := aev_rel hE (hok it (by simp [Op.operands]))
      have hgo : ∀ w' c, (Instr.next (a.eval it) str o.type).run P w = .ok c w' → K (a.put o.dst c) w' → o.wp P a w K Q := by
        intro w' c hrun hk
        unfold Oper.wp
        have : (execOp a.eval o).run P w = .ok (.value c) w' := by simp [execOp, ho, hrun]
        rw [this]
        exact hk
      have hstr' : str = false := by simpa using hstr
      subst hstr'
      unfold anext at h
      split at h
      · rename_i id hav
        rw [hav] at hx
        simp only [VR] at hx
        obtain ⟨L, hL, hval⟩ := hx
        split at h
        · rename_i since seen last hg
          have hb := hR.blk id _ L hg hL
          simp only [BlkOk] at hb
          obtain ⟨m', k1, k2, k3⟩ := hb
          rcases k3 with ⟨_, rfl⟩ | ⟨_, _, k4, _⟩
          · refine hgo w (.tuple #[.bool false]) (by rw [hval, k2]; exact run_next_none w _ _ _ _ _ k1) (hK _ _ _ _ h (Step.refl _ _ _) hR ?_)
            simp only [VR]
            exact ⟨[.bool false], rfl, VRs_cons.2 ⟨by simp [VR], VRs_nil⟩⟩
          · cases k4
        · rename_i m since seen last hg
          have hb := hR.blk id _ L hg hL
          simp only [BlkOk] at hb
          obtain ⟨m', k1, k2, k3⟩ := hb
          rcases k3 with ⟨k3, _⟩ | ⟨id', M, k4, k5, k6⟩
          · cases k3
          · injection k4 with k4; subst k4; subst k6
            split at h
            · rename_i es ck hgm
              obtain ⟨h1, h2, h3, h4⟩ := h
              obtain ⟨ces, hh, hEr⟩ := map_entries hR hgm k5
              have hidx : ∀ me ∈ ces.toList, ∃ e ∈ es, ER ρ e me := by
                intro me hme
                obtain ⟨i, hi⟩ := List.getElem?_of_mem hme
                have hlt := (List.getElem?_eq_some_iff.1 hi).1
                obtain ⟨me', e1, e2⟩ := hEr.2 i (es[i]'(by rw [hEr.1]; exact hlt)) (by simp [hEr.1, hlt])
                rw [hi] at e1; injection e1 with e1; subst e1
                exact ⟨_, List.getElem_mem _, e2⟩
              have hold : ∀ me ∈ ces.toList, me.born < since := by
                intro me hme
                obtain ⟨e, he, hke, hve, hbe⟩ := hidx me hme
                rw [hbe]
                exact h1 e he
              rcases run_next_at (P := P) w o.type L.b M.b since last seen.toArray ces ck k1 hh hold h2 with ⟨q1, q2⟩ | ⟨me, q1, w1, q2, q3⟩
              · refine hgo w (.tuple #[.bool false]) (by rw [hval, k2]; exact q2) (hK _ _ _ _ (h3 fun e he => ?_) (Step.refl _ _ _) hR ?_)
                · obtain ⟨i, hi⟩ := List.getElem?_of_mem he
                  obtain ⟨me, e1, _, _, e4⟩ := hEr.2 i e hi
                  have hmem : me ∈ ces.toList := List.mem_of_getElem? e1
                  by_cases hs : e.2.2 ∈ seen
                  · exact hs
                  · exfalso
                    have : me ∈ leftOf ces seen.toArray := by
                      unfold leftOf
                      rw [Array.mem_filter]
                      exact ⟨by simpa using hmem, by simp [e4, hs]⟩
                    have := Array.size_pos_of_mem this
                    omega
                · simp only [VR]
                  exact ⟨[.bool false], rfl, VRs_cons.2 ⟨by simp [VR], VRs_nil⟩⟩
              · have hme : me ∈ ces.toList ∧ me.born ∉ seen := by
                  unfold leftOf at q1
                  rw [Array.mem_toList_iff, Array.mem_filter] at q1
                  exact ⟨by simpa using q1.1, by simpa using q1.2⟩
                obtain ⟨e, he, hke, hve, hbe⟩ := hidx me hme.1
                have hk1 : w1.heap[L.b]? = some (.mapIter (some M.b) since seen.toArray last) := by rcases q2 with rfl | rfl <;> exact k1
                have hlt : L.b < w1.heap.size := (Array.getElem?_eq_some_iff.1 hk1).1
                have hcl := clean_or q2
                have hsz : w1.heap.size = w.heap.size := by rcases q2 with rfl | rfl <;> rfl
                have hput := R.put (b := .iter (some m) since (seen ++ [e.2.2]) ck) (w' := ChangeMaps.setBlock w1 L.b (.mapIter (some M.b) since (seen.toArray.push me.born) ck)) (hR.clean hcl) hg rfl hL (by
                    simp only [BlkOk]
                    refine ⟨some M.b, ?_, k2, .inr ⟨m, M, rfl, k5, rfl⟩⟩
                    rw [hbe]
                    simp [ChangeMaps.setBlock, hlt]) (by simp [ChangeMaps.setBlock]) rfl rfl rfl (Nat.le_refl _) (fun j hj => by simp [ChangeMaps.setBlock, Array.getElem?_setIfInBounds_ne (Ne.symm hj)])
                refine hgo _ (.tuple #[.bool true, me.key, me.val]) (by rw [hval, k2]; exact q3) (hK _ _ _ _ (h4 e he (by rw [← hbe]; exact hme.2)) ((hcl.step s ρ).trans hput.2) hput.1 ?_)
                simp only [VR]
                exact ⟨[.bool true, me.key, me.val], rfl, VRs_cons.2 ⟨by simp [VR], VRs_cons.2 ⟨hke, VRs_cons.2 ⟨hve, VRs_nil⟩⟩⟩⟩
            · exact h.elim
        · exact h.elim
      · exact h.elim
  | makeFunc fn first caps =>
    exfalso
    rw [ho] at hop
    revert hop
    cases fn <;> simp only [cop0] <;> (try split) <;> simp
  | _ =>
    exfalso
    rw [ho] at hop
    revert hop
    simp only [cop0, ccall]
    repeat' split
    all_goals first | (intro h; rename_i f _ _ ; rcases covl_cases P _ _ with q | ⟨x, y, _, _, q⟩ <;> rw [q] at h <;> cases h) | simp

end Go.AM
end
/-
  Contracts: what a function leaves for its caller, told with fewer blocks than it made. Own work of this project.
-/
section
namespace Go.AM
open Go

variable {P : Program} {ρ : Ren}

mutual
def AV.ren (f : Nat → Nat) : AV → AV
  | .ptr i o => .ptr (f i) o
  | .sl i o l c z => .sl (f i) o l c z
  | .mp i => .mp (f i)
  | .fn g cs => .fn g (AV.rens f cs)
  | .agg cs => .agg (AV.rens f cs)
  | .tup cs => .tup (AV.rens f cs)
  | .bool b => .bool b
  | .int k n => .int k n
  | .str s => .str s
  | .nilp => .nilp
  | .nils => .nils
  | .nilm => .nilm
  | .nilf => .nilf
  | .yd l => .yd l
  | .und => .und
  | .any => .any
def AV.rens (f : Nat → Nat) : List AV → List AV
  | [] => []
  | v :: r => v.ren f :: AV.rens f r
end
theorem rens_map (f : Nat → Nat) : ∀ l, AV.rens f l = l.map (AV.ren f)
  | [] => rfl
  | v :: r => by simp [AV.rens, rens_map f r]
mutual
theorem VR.ren {f : Nat → Nat} : ∀ (v : AV) (c : Value), VR ρ (v.ren f) c → VR (fun i => ρ (f i)) v c
  | .bool b, c, h => by simpa [AV.ren, VR] using h
  | .int k n, c, h => by simpa [AV.ren, VR] using h
  | .str s, c, h => by simpa [AV.ren, VR] using h
  | .nilp, c, h => by simpa [AV.ren, VR] using h
  | .nils, c, h => by simpa [AV.ren, VR] using h
  | .nilm, c, h => by simpa [AV.ren, VR] using h
  | .nilf, c, h => by simpa [AV.ren, VR] using h
  | .yd _, c, h => by simpa [AV.ren, VR] using h
  | .und, c, h => by simpa [AV.ren, VR] using h
  | .any, c, h => by simp [VR]
  | .ptr i o, c, h => by simpa [AV.ren, VR] using h
  | .mp i, c, h => by simpa [AV.ren, VR] using h
  | .sl i o l k z, c, h => by
    simp only [AV.ren, VR] at h ⊢
    exact h
  | .fn g cs, c, h => by
    simp only [AV.ren, VR] at h ⊢
    obtain ⟨l, h1, h2⟩ := h
    exact ⟨l, h1, VRs.ren cs l h2⟩
  | .agg cs, c, h => by
    simp only [AV.ren, VR] at h ⊢
    obtain ⟨l, h1, h2⟩ := h
    exact ⟨l, h1, VRs.ren cs l h2⟩
  | .tup cs, c, h => by
    simp only [AV.ren, VR] at h ⊢
    obtain ⟨l, h1, h2⟩ := h
    exact ⟨l, h1, VRs.ren cs l h2⟩
theorem VRs.ren {f : Nat → Nat} : ∀ (v : List AV) (c : List Value), VRs ρ (AV.rens f v) c → VRs (fun i => ρ (f i)) v c
  | [], c, h => by simpa [AV.rens, VRs] using h
  | v :: r, c, h => by
    simp only [AV.rens, VRs] at h ⊢
    obtain ⟨x, l, h1, h2, h3⟩ := h
    exact ⟨x, l, h1, VR.ren v x h2, VRs.ren r l h3⟩
end
theorem AV.one_ren (f : Nat → Nat) (v : AV) : (v.ren f).one = v.one := by cases v <;> simp [AV.ren, AV.one]

def AB.ren (f : Nat → Nat) : AB → AB
  | .row cs own => .row (AV.rens f cs) own
  | .map es ck => .map (es.map fun e => (e.1.ren f, e.2.1.ren f, e.2.2)) ck
  | .iter m a b c => .iter (m.map f) a b c
  | .unborn => .unborn
  | .dead => .dead
theorem AB.live_ren (f : Nat → Nat) (b : AB) : (b.ren f).live = b.live := by cases b <;> rfl
theorem AB.owned_ren (f : Nat → Nat) (b : AB) : (b.ren f).owned = b.owned := by cases b <;> rfl
theorem BlkOk.ren {f : Nat → Nat} {L : Loc} {w : World} {b : AB} (h : BlkOk ρ L w (b.ren f)) : BlkOk (fun i => ρ (f i)) L w b := by
  cases b with
  | row cells own =>
    simp only [AB.ren, BlkOk] at h ⊢
    obtain ⟨cs, e, fr, h1, h2, h3, h4, h5, h6⟩ := h
    rw [rens_map] at h3 h4 h6
    refine ⟨cs, e, fr, h1, h2, by simpa using h3, fun i v hv => ?_, h5, ?_⟩
    · obtain ⟨c, e1, e2⟩ := h4 i (v.ren f) (by simp [hv])
      exact ⟨c, e1, VR.ren v c e2⟩
    · rw [List.all_eq_true] at h6 ⊢
      intro v hv
      have := h6 (v.ren f) (List.mem_map_of_mem hv)
      rwa [AV.one_ren] at this
  | map es ck =>
    simp only [AB.ren, BlkOk] at h ⊢
    obtain ⟨ces, h1, h2, h3⟩ := h
    refine ⟨ces, h1, by simpa using h2, fun i e he => ?_⟩
    obtain ⟨m, e1, e2, e3, e4⟩ := h3 i (e.1.ren f, e.2.1.ren f, e.2.2) (by simp [he])
    exact ⟨m, e1, VR.ren _ _ e2, VR.ren _ _ e3, e4⟩
  | iter m a b c =>
    simp only [AB.ren, BlkOk] at h ⊢
    obtain ⟨m', h1, h2, h3⟩ := h
    refine ⟨m', h1, h2, ?_⟩
    rcases h3 with ⟨e1, e2⟩ | ⟨id, M, e1, e2, e3⟩
    · exact .inl ⟨by simpa using e1, e2⟩
    · obtain ⟨id', rfl, rfl⟩ := Option.map_eq_some_iff.1 e1
      exact .inr ⟨id', M, rfl, e2, e3⟩
  | unborn => trivial
  | dead => trivial

/-- The memory s' behind a call from s is a part of the memory t, its blocks named anew. -/
structure Emb (f : Nat → Nat) (s s' t : St) : Prop where
  next : s.next ≤ s'.next
  low : s'.low ≤ t.low
  old : ∀ id, id < s.next → f id = id
  out : ∀ id, s'.next ≤ id → t.next ≤ f id
  inj : ∀ i j, i < s'.next → j < s'.next → f i = f j → i = j
  get : ∀ id b, s'.get id = some b → b.live = false ∨ t.get (f id) = some (b.ren f) ∨ (id < s.next ∧ s.get id = some b ∧ t.get id = some b)
  unm : ∀ id, id < s.next → t.get id = s.get id → s'.get id = s.get id

mutual
theorem VR.ren_same {f : Nat → Nat} (hf : ∀ i L, ρ i = some L → f i = i) : ∀ (v : AV) (c : Value), VR ρ v c → v.ren f = v
  | .bool _, _, _ | .int _ _, _, _ | .str _, _, _ | .nilp, _, _ | .nils, _, _ | .nilm, _, _ | .nilf, _, _ | .yd _, _, _ | .und, _, _ | .any, _, _ => by simp [AV.ren]
  | .ptr i o, c, h => by
    simp only [VR] at h
    obtain ⟨L, hL, _⟩ := h
    simp [AV.ren, hf i L hL]
  | .mp i, c, h => by
    simp only [VR] at h
    obtain ⟨L, hL, _⟩ := h
    simp [AV.ren, hf i L hL]
  | .sl i o l k z, c, h => by
    simp only [VR] at h
    obtain ⟨L, _, _, hL, _⟩ := h
    simp [AV.ren, hf i L hL]
  | .fn g cs, c, h => by
    simp only [VR] at h
    obtain ⟨l, _, h2⟩ := h
    simp [AV.ren, VRs.ren_same hf cs l h2]
  | .agg cs, c, h => by
    simp only [VR] at h
    obtain ⟨l, _, h2⟩ := h
    simp [AV.ren, VRs.ren_same hf cs l h2]
  | .tup cs, c, h => by
    simp only [VR] at h
    obtain ⟨l, _, h2⟩ := h
    simp [AV.ren, VRs.ren_same hf cs l h2]
theorem VRs.ren_same {f : Nat → Nat} (hf : ∀ i L, ρ i = some L → f i = i) : ∀ (v : List AV) (c : List Value), VRs ρ v c → AV.rens f v = v
  | [], _, _ => rfl
  | v :: r, c, h => by
    simp only [VRs] at h
    obtain ⟨x, l, _, h2, h3⟩ := h
    simp [AV.rens, VR.ren_same hf v x h2, VRs.ren_same hf r l h3]
end
theorem map_same {β : Type} {g : β → β} : ∀ {l : List β}, (∀ x ∈ l, g x = x) → l.map g = l
  | [], _ => rfl
  | x :: l, h => by simp [h x (by simp), map_same (l := l) fun y hy => h y (by simp [hy])]
theorem BlkOk.ren_same {f : Nat → Nat} {L : Loc} {w : World} {b : AB} (hf : ∀ i L, ρ i = some L → f i = i) (h : BlkOk ρ L w b) : b.ren f = b := by
  cases b with
  | row cells own =>
    simp only [BlkOk] at h
    obtain ⟨cs, e, fr, _, _, _, h4, _⟩ := h
    simp only [AB.ren, rens_map]
    congr 1
    refine map_same fun v hv => ?_
    obtain ⟨i, hi⟩ := List.getElem?_of_mem hv
    obtain ⟨c, _, hc⟩ := h4 i v hi
    exact VR.ren_same hf v c hc
  | map es ck =>
    simp only [BlkOk] at h
    obtain ⟨ces, _, _, h3⟩ := h
    simp only [AB.ren]
    congr 1
    refine map_same fun e he => ?_
    obtain ⟨i, hi⟩ := List.getElem?_of_mem he
    obtain ⟨m, _, h5, h6, _⟩ := h3 i e hi
    rw [VR.ren_same hf _ _ h5, VR.ren_same hf _ _ h6]
  | iter m a b c =>
    simp only [BlkOk] at h
    obtain ⟨m', _, _, h3⟩ := h
    simp only [AB.ren]
    rcases h3 with ⟨rfl, _⟩ | ⟨id, M, rfl, h5, _⟩
    · rfl
    · simp [hf id M h5]
  | unborn => rfl
  | dead => rfl

theorem Emb.sound {f : Nat → Nat} {s s' t : St} {ρ ρt : Ren} {w w' : World} (h : Emb f s s' t) (hR0 : R s ρ w) (hf : Free s ρ) (hst : Step s t ρ ρt w w') (hR : R t ρt w') :
    Step s s' ρ (fun i => ρt (f i)) w w' ∧ R s' (fun i => ρt (f i)) w' := by
  have hn := h.next
  have hlow := h.low
  have hlt0 : ∀ i M, ρ i = some M → i < s.next := by
    intro i M hM
    by_cases hi : i < s.next
    · exact hi
    · rw [hf i (by omega)] at hM; cases hM
  have hnew : ∀ id, s.next ≤ id → id < s'.next → s.next ≤ f id := by
    intro id h1 h2
    by_cases hlt : f id < s.next
    · have := h.inj (f id) id (by omega) h2 (h.old _ hlt)
      omega
    · omega
  refine ⟨⟨hn, Nat.le_trans h.low hst.low, fun id hid => ?_, hst.size, hst.os, hst.tape, hst.output, hst.drawn, fun b hb H => hst.frame b hb fun id L blk h1 => H id L blk (by omega), fun id blk' h1 h2 h3 => ?_, fun id L blk' h1 h2 h3 h4 => ?_, fun id h1 h2 => h.unm id h1 (hst.unm id h1 h2)⟩,
    ⟨fun id L e => hR.bound (f id) L e, fun id b L h1 h2 => ?_, fun i j L M bi bj hij e1 e2 e3 e4 e5 e6 => ?_⟩⟩
  · rcases hid with hid | hid
    · simp only [h.old id hid]
      exact hst.ren id (.inl hid)
    · have h1 := h.out id hid
      have h2 := hst.next
      show ρt (f id) = ρ id
      rw [hst.ren (f id) (.inr h1), hf (f id) (by omega), hf id (by omega)]
  · rcases h.get id blk' h2 with q | q | ⟨_, q, _⟩
    · rw [h3] at q; cases q
    rotate_left
    · exact ⟨blk', q, h3, fun k => k⟩
    · rw [h.old id h1] at q
      obtain ⟨b0, g1, g2, g3⟩ := hst.old id _ h1 q (by rw [AB.live_ren]; exact h3)
      exact ⟨b0, g1, g2, fun k => g3 (by rw [AB.owned_ren]; exact k)⟩
  · have hlt := St.get_lt h3
    rcases h.get id blk' h3 with q | q | ⟨q, _⟩
    · rw [h4] at q; cases q
    rotate_left
    · omega
    · rcases hst.new (f id) L _ (hnew id h1 hlt) h2 q (by rw [AB.live_ren]; exact h4) with k | ⟨id0, L0, b0, k1, k2⟩
      · exact .inl k
      · exact .inr ⟨id0, L0, b0, by omega, k2⟩
  · rcases h.get id b h1 with q | q | ⟨q0, q1, q2⟩
    · cases b <;> simp [AB.live] at q <;> trivial
    · exact (hR.blk (f id) _ L q h2).ren
    · refine BlkOk.ren ?_
      rw [(hR0.blk id b L q1 (by rw [← hst.ren id (.inl q0), ← h2, h.old id q0])).ren_same fun i M hM => h.old i (hlt0 i M hM)]
      exact hR.blk id b L q2 (by rw [← h2, h.old id q0])
  · have hget : ∀ i b, s'.get i = some b → b.live = true → ∃ b', t.get (f i) = some b' ∧ b'.live = b.live ∧ b'.owned = b.owned := by
      intro i b hb hl
      rcases h.get i b hb with q | q | ⟨q0, _, q2⟩
      · rw [hl] at q; cases q
      · exact ⟨_, q, AB.live_ren _ _, AB.owned_ren _ _⟩
      · exact ⟨b, by rw [h.old i q0]; exact q2, rfl, rfl⟩
    obtain ⟨b1, g1, g2, g3⟩ := hget i bi e3 (AB.live_of_owned e5)
    obtain ⟨b2, g4, g5, g6⟩ := hget j bj e4 e6
    exact hR.inj (f i) (f j) L M _ _ (fun e => hij (h.inj i j (St.get_lt e3) (St.get_lt e4) e)) e1 e2 g1 g4 (by rw [g3]; exact e5) (by rw [g5]; exact e6)

mutual
theorem AV.ren_id : ∀ v : AV, v.ren id = v
  | .bool b | .int k n | .str s | .nilp | .nils | .nilm | .nilf | .yd _ | .und | .any | .ptr i o | .mp i | .sl i o l k z => by simp [AV.ren]
  | .fn g cs | .agg cs | .tup cs => by simp [AV.ren, AV.rens_id cs]
theorem AV.rens_id : ∀ v : List AV, AV.rens id v = v
  | [] => rfl
  | v :: r => by simp [AV.rens, AV.ren_id v, AV.rens_id r]
end
theorem AB.ren_id (b : AB) : b.ren id = b := by
  cases b <;> simp [AB.ren, AV.rens_id, AV.ren_id]
theorem Emb.refl {s t : St} (h : Grow s t) : Emb id s t t :=
  ⟨h.1, Nat.le_refl _, fun _ _ => rfl, fun id h => h, fun i j _ _ e => e, fun j b hb => .inr (.inl (by rw [AB.ren_id]; exact hb)), fun _ _ h => h⟩

/-! ### A call without arguments: run from the empty memory -/
def St.empty : St := ⟨[], 0, 0⟩
theorem R_empty (w : World) : R St.empty (fun _ => none) w := by
  refine ⟨?_, ?_, ?_⟩
  · intro _ _ e
    cases e
  · intro _ _ _ _ e
    cases e
  · intro _ _ _ _ _ _ _ e
    cases e
def closed (args : List AV) (r : AV) : List AV → St → Option (AV × St) := fun xs0 s => if xs0 = [] ∧ args = [] then some (r, s) else none
theorem closed_sound {g : Nat} {c : List AV → St → Option (AV × St)} (h : SoundAt P g c) {r : AV} {s' : St} (hc : c [] St.empty = some (r, s')) (hg : r.ground = true) : SoundAt P g (closed [] r) := by
  intro xs0 s r' t ht
  unfold closed at ht
  split at ht
  · rename_i has
    injection ht with ht
    obtain ⟨rfl, rfl⟩ := Prod.mk.inj ht
    obtain ⟨h1, h2, h3⟩ := h [] St.empty r s' hc
    refine ⟨h1, ⟨.refl _, .refl _⟩, fun ρ w cargs hfree hR hargs => ?_⟩
    rw [has.1] at hargs
    simp only [VRs] at hargs
    subst hargs
    refine (h3 (fun _ => none) w [] (fun _ _ => rfl) (R_empty w) VRs_nil).mono fun e w' hpost => ?_
    obtain ⟨ρ', v, rfl, hv, hst, hr⟩ := hpost
    have hcl : Clean w w' := hst.clean (by simp [St.empty])
    exact ⟨ρ, v, rfl, VR.ground hg hv, hcl.step s ρ, hR.clean hcl⟩
  · cases ht

end Go.AM
end
/-
  Small tables of contracts; dots and nodes as data. Own work of this project.
-/
section
namespace Go.AM
open Go

abbrev Con := List AV → St → Option (AV × St)
def tb : List (Nat × Con) → Nat → Con
  | [], _ => fun _ _ => none
  | (g, c) :: r, f => if f = g then c else tb r f
theorem tb_sound {P : Program} : ∀ {l : List (Nat × Con)}, (∀ p ∈ l, SoundAt P p.1 p.2) → Sound P (tb l)
  | [], _ => fun f xs0 s r s' h => by simp [tb] at h
  | (g, c) :: l, h => fun f xs0 s r s' hc => by
    simp only [tb] at hc
    split at hc
    · rename_i e
      subst e
      exact h (f, c) (by simp) xs0 s r s' hc
    · exact tb_sound (l := l) (fun p hp => h p (by simp [hp])) f xs0 s r s' hc

theorem beq_dec (a b : Int) : (a == b) = decide (a = b) := by
  by_cases h : a = b <;> simp [h]
theorem bne_dec (a b : Int) : (a != b) = !decide (a = b) := by
  by_cases h : a = b <;> simp [h]

/-! ### Data -/
structure Dot where
  r : Int
  c : Int
  deriving DecidableEq
structure Nd where
  d : Dot
  p : Dot
  t : Int
  x : Int
  deriving DecidableEq
def Dot.av (d : Dot) : List AV := [.int .i64 d.r, .int .i64 d.c]
def Nd.av (n : Nd) : List AV := [.int .i64 n.d.r, .int .i64 n.d.c, .int .i64 n.p.r, .int .i64 n.p.c, .int .i64 n.t, .int .i32 n.x]
/-! ### Contracts -/
end Go.AM
end
/-
  Rules for stepping through the abstract machine's code by rewriting. Own work of this project.
-/
section
namespace Go.AM
open Go

variable {call : Nat → List AV → St → Option (AV × St)}

/-! ### What holds behind the code may be weakened; loops with a bound -/
theorem awops_mono {base : Nat} {Q Q' : Env → St → Prop} (h : ∀ e t, Q e t → Q' e t) : ∀ (os : List AOper) (env : Env) (s : St), awops call base os Q env s → awops call base os Q' env s
  | [], env, s, k => h _ _ k
  | o :: rest, env, s, k => by
    simp only [awops] at k ⊢
    split at k
    · split at k
      · rename_i x hx
        unfold anext at k ⊢
        split at k
        · split at k
          · exact awops_mono h rest _ _ k
          · split at k
            · exact ⟨k.1, k.2.1, fun q => awops_mono h rest _ _ (k.2.2.1 q), fun e h1 h2 => awops_mono h rest _ _ (k.2.2.2 e h1 h2)⟩
            · exact k
          · exact k
        · exact k
      · split at k
        · exact awops_mono h rest _ _ k
        · exact k
    · exact awops_mono h rest _ _ k
    · exact k
theorem arounds_mono {b : (AEx → Env → St → Prop) → Env → St → Prop} (hb : ∀ {Q Q' : AEx → Env → St → Prop}, (∀ x e t, Q x e t → Q' x e t) → ∀ {e t}, b Q e t → b Q' e t) {Q Q' : AEx → Env → St → Prop} (h : ∀ x e t, Q x e t → Q' x e t) :
    ∀ (n m : Nat) {e : Env} {t : St}, n ≤ m → arounds b Q n e t → arounds b Q' m e t
  | 0, _, _, _, _, k => k.elim
  | n + 1, 0, _, _, hn, _ => by omega
  | n + 1, m + 1, e, t, hn, k => by
    simp only [arounds] at k ⊢
    refine hb (fun x e t q => ?_) k
    cases x with
    | nor => exact arounds_mono hb h n m (by omega) q
    | exit i => exact h _ _ _ q
    | ret => exact h _ _ _ q
theorem awp_mono : ∀ (c : AC) {Q Q' : AEx → Env → St → Prop} (h : ∀ x e t, Q x e t → Q' x e t) {env : Env} {s : St}, awp call c Q env s → awp call c Q' env s
  | .skip, _, _, h, _, _, k => h _ _ _ k
  | .reg os, _, _, h, _, _, k => awops_mono (h .nor) os _ _ k
  | .regd n os, _, _, h, _, _, k => by
    obtain ⟨e, t, h1, h2⟩ := k
    exact ⟨e, t, h1, h _ _ _ h2⟩
  | .regw os chk, _, _, h, _, _, k => by
    obtain ⟨e, t, h1, h3, h2⟩ := k
    exact ⟨e, t, h1, h3, h _ _ _ h2⟩
  | .seq a b, Q, Q', h, _, _, k => by
    refine awp_mono a (fun x e t q => ?_) k
    cases x with
    | nor => exact awp_mono b h q
    | exit i => exact h _ _ _ q
    | ret => exact h _ _ _ q
  | .cond c a b, Q, Q', h, env, s, k => by
    simp only [awp] at k ⊢
    split at k
    · exact awp_mono a h k
    · exact awp_mono b h k
    · exact k
  | .block id c, Q, Q', h, _, _, k => by
    refine awp_mono c (fun x e t q => ?_) k
    cases x with
    | nor => exact h _ _ _ q
    | exit i =>
      simp only at q ⊢
      split
      · rename_i hi
        rw [if_pos hi] at q
        exact h _ _ _ q
      · rename_i hi
        rw [if_neg hi] at q
        exact h _ _ _ q
    | ret => exact h _ _ _ q
  | .loop c, Q, Q', h, env, s, k => by
    obtain ⟨n, k⟩ := k
    exact ⟨n, arounds_mono (b := awp call c) (fun h => fun q => awp_mono c h q) h n n (Nat.le_refl _) k⟩
  | .exit _, _, _, h, _, _, k => h _ _ _ k
  | .ret, _, _, h, _, _, k => h _ _ _ k
  | .bad, _, _, _, _, _, k => k

theorem awp_loop {c : AC} {Q : AEx → Env → St → Prop} (I : Nat → Env → St → Prop)
    (step : ∀ n e t, I n e t → awp call c (fun x e' t' => match x with
      | .nor => ∃ m, m < n ∧ I m e' t'
      | x => Q x e' t') e t) {n : Nat} {e : Env} {t : St} (h : I n e t) : awp call (.loop c) Q e t := by
  have key : ∀ n e t, I n e t → arounds (awp call c) Q (n + 1) e t := by
    intro n
    induction n using Nat.strongRecOn with
    | ind n ih =>
      intro e t h
      simp only [arounds]
      refine awp_mono c (fun x e' t' q => ?_) (step n e t h)
      cases x with
      | nor =>
        obtain ⟨m, h1, h2⟩ := q
        exact arounds_mono (b := awp call c) (fun h => fun q => awp_mono c h q) (fun _ _ _ q => q) (m + 1) n (by omega) (ih m h1 e' t' h2)
      | exit i => exact q
      | ret => exact q
  exact ⟨n + 1, key n e t h⟩
universe u
theorem nrfl {α : Sort u} {a b : α} (h : a = b) : a = b := by
  cases h
  rfl
/-! ### Temporaries -/
def E (env : Env) (i : Nat) : AV := env.getD i .und
theorem aev_t (env : Env) (n : Nat) : aev env (.t n) = E env n := nrfl rfl
theorem aev_c (env : Env) (v : AV) : aev env (.c v) = v := nrfl rfl
theorem aev_f (env : Env) (n : Nat) : aev env (.f n) = .fn n [] := nrfl rfl
theorem E_same {env : Env} {i : Nat} (h : i < env.length) (v : AV) : E (env.set i v) i = v := by
  simp [E, h]
theorem E_ne {i j : Nat} (h : i ≠ j) (env : Env) (v : AV) : E (env.set i v) j = E env j := by
  simp [E, List.getElem?_set_ne h]
def pE (env : Env) (d : Option Nat) (v : AV) : Env := putE env d v
theorem pE_none (env : Env) (v : AV) : pE env none v = env := nrfl rfl
def elen (env : Env) : Nat := env.length
theorem E_pne {i j : Nat} (h : i ≠ j) (env : Env) (v : AV) : E (pE env (some i) v) j = E env j := E_ne h env v
theorem E_psame {env : Env} {i : Nat} (h : i < elen env) (v : AV) : E (pE env (some i) v) i = v := E_same h v
theorem elen_put (env : Env) (d : Option Nat) (v : AV) : elen (pE env d v) = elen env := by cases d <;> simp [elen, pE, putE]
theorem start_env {args : List AV} {n : Nat} (h : args.length ≤ n) {p : Env → Prop} (k : ∀ env : Env, elen env = n → (∀ i v, args[i]? = some v → E env i = v) → p env) : p (args ++ List.replicate (n - args.length) .und) := by
  refine k _ (by simp [elen]; omega) fun i v hi => ?_
  have := (List.getElem?_eq_some_iff.1 hi).1
  simp [E, List.getElem?_append_left this, hi]

/-! ### Steps -/
def pstep (o : Option AV) (K : AV → Prop) : Prop := match o with
  | some v => K v
  | none => False
def estep (o : Option (AV × St)) (K : AV → St → Prop) : Prop := match o with
  | some (v, s) => K v s
  | none => False
theorem pstep_some (v : AV) (K : AV → Prop) : pstep (some v) K = K v := nrfl rfl
theorem estep_some (v : AV) (s : St) (K : AV → St → Prop) : estep (some (v, s)) K = K v s := nrfl rfl
def isT (w : Bool) : AV → Bool
  | .bool b => b == w
  | _ => false
def gstep (v : AV) (w : Bool) (A B : Prop) : Prop := match v with
  | .bool b => if b = w then A else B
  | .any => False
  | _ => B
theorem gstep_tt (A B : Prop) : gstep (.bool true) true A B = A := nrfl rfl
theorem gstep_ff (A B : Prop) : gstep (.bool false) false A B = A := nrfl rfl
theorem gstep_tf (A B : Prop) : gstep (.bool true) false A B = B := nrfl rfl
theorem gstep_ft (A B : Prop) : gstep (.bool false) true A B = B := nrfl rfl
theorem gstep_und (w : Bool) (A B : Prop) : gstep .und w A B = B := nrfl rfl
@[congr] theorem gstep_congr {v v' : AV} (h : v = v') (w : Bool) (A B : Prop) : gstep v w A B = gstep v' w A B := by rw [h]
@[congr] theorem pstep_congr {o o' : Option AV} (h : o = o') (K : AV → Prop) : pstep o K = pstep o' K := by rw [h]
@[congr] theorem estep_congr {o o' : Option (AV × St)} (h : o = o') (K : AV → St → Prop) : estep o K = estep o' K := by rw [h]

variable {base : Nat} {d : Option Nat} {r : Option Nat} {fr : Bool} {rest : List AOper} {Q : Env → St → Prop} {env : Env} {s : St}

theorem st_nil : awops call base [] Q env s = Q env s := nrfl rfl
theorem st_guard (op : AOp) (t : Nat) (w : Bool) : awops call base (⟨d, op, some (t, w), r, fr⟩ :: rest) Q env s =
    gstep (E env t) w (awops call base (⟨d, op, none, r, fr⟩ :: rest) Q env s) (awops call base rest Q (pE env d .und) s) := by
  simp only [awops, wanted]
  unfold E
  generalize env.getD t .und = v
  cases v <;> try rfl
  rename_i b
  cases b <;> cases w <;> rfl
theorem awops_cons {op : AOp} (h0 : ∀ x, op ≠ .nxt x) : awops call base (⟨d, op, none, r, fr⟩ :: rest) Q env s = estep (aop call base ⟨d, op, none, r, fr⟩ env s) fun v t => awops call base rest Q (pE env d v) t := by
  cases op
  case nxt x => exact absurd rfl (h0 x)
  all_goals rfl
theorem st_pure {op : AOp} (h0 : ∀ x, op ≠ .nxt x) (h1 : aalloc env op = none) (h2 : aread call env s op = none) (h3 : ∀ s, aeff call env s op = none) :
    awops call base (⟨d, op, none, r, fr⟩ :: rest) Q env s = pstep (apure env op) fun v => awops call base rest Q (pE env d v) s := by
  rw [awops_cons h0]
  simp only [aop, h1, h2, h3]
  cases apure env op with
  | some v => rfl
  | none => cases fr <;> rfl
theorem st_read {op : AOp} (h0 : ∀ x, op ≠ .nxt x) (h1 : aalloc env op = none) (h2 : apure env op = none) (h3 : ∀ s, aeff call env s op = none) :
    awops call base (⟨d, op, none, r, false⟩ :: rest) Q env s = pstep (aread call env s op) fun v => awops call base rest Q (pE env d v) s := by
  rw [awops_cons h0]
  simp only [aop, h1, h2, h3, Bool.false_and, Bool.false_eq_true, if_false]
  cases aread call env s op with
  | some v => rfl
  | none => rfl
theorem st_eff {op : AOp} (h0 : ∀ x, op ≠ .nxt x) (h1 : aalloc env op = none) (h2 : apure env op = none) (h3 : aread call env s op = none) :
    awops call base (⟨d, op, none, r, false⟩ :: rest) Q env s = estep (aeff call env s op) fun v t => awops call base rest Q (pE env d v) t := by
  rw [awops_cons h0]
  simp only [aop, h1, h2, h3]
  rfl
theorem st_efff {op : AOp} (h0 : ∀ x, op ≠ .nxt x) (h1 : aalloc env op = none) (h2 : apure env op = none) (h3 : aread call env s op = none) :
    awops call base (⟨d, op, none, r, true⟩ :: rest) Q env s = estep (aeff call env { s with low := s.next } op) fun v t => if (⟨d, op, none, r, true⟩ : AOper).floor base s.next ≤ t.low then awops call base rest Q (pE env d v) { t with low := min s.low t.low } else False := by
  rw [awops_cons h0]
  simp only [aop, h1, h2, h3, if_true]
  cases aeff call env { s with low := s.next } op with
  | some v =>
    simp only [estep]
    split <;> rename_i h
    · split at h
      · rename_i h'
        injection h with h
        obtain ⟨rfl, rfl⟩ := Prod.mk.inj h
        rw [if_pos h']
      · cases h
    · split at h
      · cases h
      · rename_i h'
        rw [if_neg h']
  | none => rfl
def astep (o : Option ((Nat → AV) × AB)) (K : (Nat → AV) → AB → Prop) : Prop := match o with
  | some (v, b) => K v b
  | none => False
@[congr] theorem astep_congr {o o' : Option ((Nat → AV) × AB)} (h : o = o') (K : (Nat → AV) → AB → Prop) : astep o K = astep o' K := by rw [h]
theorem astep_some (v : Nat → AV) (b : AB) (K : (Nat → AV) → AB → Prop) : astep (some (v, b)) K = K v b := nrfl rfl
theorem st_alloc {op : AOp} (h0 : ∀ x, op ≠ .nxt x) (h1 : apure env op = none) (h2 : aread call env s op = none) (h3 : ∀ s, aeff call env s op = none) :
    awops call base (⟨d, op, none, none, fr⟩ :: rest) Q env s = astep (aalloc env op) fun v b => awops call base rest Q (pE env d (v s.next)) (s.push b) := by
  rw [awops_cons h0]
  simp only [aop, h1, h2, h3]
  cases aalloc env op with
  | some v => rfl
  | none => cases fr <;> rfl
def bstep (o : Option AB) (A : Prop) : Prop := match o with
  | some .unborn => A
  | _ => False
theorem bstep_some (A : Prop) : bstep (some .unborn) A = A := nrfl rfl
@[congr] theorem bstep_congr {o o' : Option AB} (h : o = o') (A : Prop) : bstep o A = bstep o' A := by rw [h]
theorem st_allocr {op : AOp} {j : Nat} (h0 : ∀ x, op ≠ .nxt x) (h1 : apure env op = none) (h2 : aread call env s op = none) (h3 : ∀ s, aeff call env s op = none) :
    awops call base (⟨d, op, none, some j, fr⟩ :: rest) Q env s = astep (aalloc env op) fun v b => bstep (s.get (base + j)) (awops call base rest Q (pE env d (v (base + j))) (s.born (base + j) b)) := by
  rw [awops_cons h0]
  simp only [aop, h1, h2, h3]
  cases aalloc env op with
  | some v =>
    simp only [astep, bstep]
    cases s.get (base + j) with
    | none => rfl
    | some b => cases b <;> rfl
  | none => cases fr <;> rfl

theorem st_mv (x : AO) : awops call base (⟨d, .mv x, none, r, fr⟩ :: rest) Q env s = pstep (some (aev env x)) fun v => awops call base rest Q (pE env d v) s := nrfl rfl
theorem st_pick (c a b : AO) : awops call base (⟨d, .pick c a b, none, r, fr⟩ :: rest) Q env s = pstep (apure env (.pick c a b)) fun v => awops call base rest Q (pE env d v) s := st_pure (by simp) rfl rfl fun _ => rfl
theorem st_build (z : List AV) (ps : List (Nat × Nat × AO)) : awops call base (⟨d, .build z ps, none, r, fr⟩ :: rest) Q env s = pstep (apure env (.build z ps)) fun v => awops call base rest Q (pE env d v) s := st_pure (by simp) rfl rfl fun _ => rfl
theorem st_bin (o : BinOp) (k : EK) (x y : AO) : awops call base (⟨d, .bin o k x y, none, r, fr⟩ :: rest) Q env s = pstep (binOp o k (aev env x) (aev env y)) fun v => awops call base rest Q (pE env d v) s := st_pure (op := .bin o k x y) (by simp) rfl rfl fun _ => rfl
theorem st_un (o : UnOp) (x : AO) : awops call base (⟨d, .un o x, none, r, fr⟩ :: rest) Q env s = pstep (apure env (.un o x)) fun v => awops call base rest Q (pE env d v) s := st_pure (by simp) rfl rfl fun _ => rfl
theorem st_conv (k : IntKind) (x : AO) : awops call base (⟨d, .conv k x, none, r, fr⟩ :: rest) Q env s = pstep (apure env (.conv k x)) fun v => awops call base rest Q (pE env d v) s := st_pure (by simp) rfl rfl fun _ => rfl
theorem st_mkfn (f : Nat) (x : List AO) : awops call base (⟨d, .mkfn f x, none, r, fr⟩ :: rest) Q env s = pstep (apure env (.mkfn f x)) fun v => awops call base rest Q (pE env d v) s := st_pure (by simp) rfl rfl fun _ => rfl
theorem st_slc (n : Nat) (x : AO) (a b c : Option AO) : awops call base (⟨d, .slc n x a b c, none, r, fr⟩ :: rest) Q env s = pstep (apure env (.slc n x a b c)) fun v => awops call base rest Q (pE env d v) s := st_pure (by simp) rfl rfl fun _ => rfl
theorem st_slcs (x : AO) (a b : Option AO) : awops call base (⟨d, .slcs x a b, none, r, fr⟩ :: rest) Q env s = pstep (apure env (.slcs x a b)) fun v => awops call base rest Q (pE env d v) s := st_pure (by simp) rfl rfl fun _ => rfl
theorem st_fad (o : Nat) (x : AO) : awops call base (⟨d, .fad o x, none, r, fr⟩ :: rest) Q env s = pstep (apure env (.fad o x)) fun v => awops call base rest Q (pE env d v) s := st_pure (by simp) rfl rfl fun _ => rfl
theorem st_fld (b : Bool) (o n : Nat) (x : AO) : awops call base (⟨d, .fld b o n x, none, r, fr⟩ :: rest) Q env s = pstep (apure env (.fld b o n x)) fun v => awops call base rest Q (pE env d v) s := st_pure (by simp) rfl rfl fun _ => rfl
theorem st_iad (n : Nat) (x i : AO) : awops call base (⟨d, .iad n x i, none, r, fr⟩ :: rest) Q env s = pstep (apure env (.iad n x i)) fun v => awops call base rest Q (pE env d v) s := st_pure (by simp) rfl rfl fun _ => rfl
theorem st_idxs (x i : AO) : awops call base (⟨d, .idxs x i, none, r, fr⟩ :: rest) Q env s = pstep (apure env (.idxs x i)) fun v => awops call base rest Q (pE env d v) s := st_pure (by simp) rfl rfl fun _ => rfl
theorem st_ext (x : AO) (i : Nat) : awops call base (⟨d, .ext x i, none, r, fr⟩ :: rest) Q env s = pstep (apure env (.ext x i)) fun v => awops call base rest Q (pE env d v) s := st_pure (by simp) rfl rfl fun _ => rfl
theorem st_len (x : AO) : awops call base (⟨d, .len .sl x, none, r, fr⟩ :: rest) Q env s = pstep (apure env (.len .sl x)) fun v => awops call base rest Q (pE env d v) s := st_pure (by simp) rfl rfl fun _ => rfl
theorem st_lens (x : AO) : awops call base (⟨d, .len .st x, none, r, fr⟩ :: rest) Q env s = pstep (apure env (.len .st x)) fun v => awops call base rest Q (pE env d v) s := st_pure (by simp) rfl rfl fun _ => rfl
theorem st_cap (x : AO) : awops call base (⟨d, .cap x, none, r, fr⟩ :: rest) Q env s = pstep (apure env (.cap x)) fun v => awops call base rest Q (pE env d v) s := st_pure (by simp) rfl rfl fun _ => rfl
theorem st_mm (b : Bool) (x : List AO) : awops call base (⟨d, .mm b x, none, r, fr⟩ :: rest) Q env s = pstep (apure env (.mm b x)) fun v => awops call base rest Q (pE env d v) s := st_pure (by simp) rfl rfl fun _ => rfl
theorem st_nchk (x : AO) : awops call base (⟨d, .nchk x, none, r, fr⟩ :: rest) Q env s = pstep (apure env (.nchk x)) fun v => awops call base rest Q (pE env d v) s := st_pure (by simp) rfl rfl fun _ => rfl
theorem st_load1 (x : AO) : awops call base (⟨d, .load1 x, none, r, false⟩ :: rest) Q env s = pstep (aread call env s (.load1 x)) fun v => awops call base rest Q (pE env d v) s := st_read (by simp) rfl rfl fun _ => rfl
theorem st_loadn (n : Nat) (x : AO) : awops call base (⟨d, .loadn n x, none, r, false⟩ :: rest) Q env s = pstep (aread call env s (.loadn n x)) fun v => awops call base rest Q (pE env d v) s := st_read (by simp) rfl rfl fun _ => rfl
theorem st_b2s (x : AO) : awops call base (⟨d, .b2s x, none, r, false⟩ :: rest) Q env s = pstep (aread call env s (.b2s x)) fun v => awops call base rest Q (pE env d v) s := st_read (by simp) rfl rfl fun _ => rfl
theorem st_look (z : AV) (k : EK) (ok : Bool) (m i : AO) : awops call base (⟨d, .look z k ok m i, none, r, false⟩ :: rest) Q env s = pstep (aread call env s (.look z k ok m i)) fun v => awops call base rest Q (pE env d v) s := st_read (by simp) rfl rfl fun _ => rfl
theorem st_lenm (x : AO) : awops call base (⟨d, .len .mp x, none, r, false⟩ :: rest) Q env s = pstep (aread call env s (.len .mp x)) fun v => awops call base rest Q (pE env d v) s := st_read (by simp) rfl rfl fun _ => rfl
theorem st_ent (x : AO) : awops call base (⟨d, .ent x, none, r, false⟩ :: rest) Q env s = pstep (aread call env s (.ent x)) fun v => awops call base rest Q (pE env d v) s := st_read (by simp) rfl rfl fun _ => rfl
theorem st_calld (f : Nat) (l : List AO) : awops call base (⟨d, .call f true l, none, r, false⟩ :: rest) Q env s = pstep (aread call env s (.call f true l)) fun v => awops call base rest Q (pE env d v) s := st_read (by simp) rfl rfl fun _ => rfl
theorem st_callvd (x : AO) (l : List AO) : awops call base (⟨d, .callv x true l, none, r, false⟩ :: rest) Q env s = pstep (aread call env s (.callv x true l)) fun v => awops call base rest Q (pE env d v) s := st_read (by simp) rfl rfl fun _ => rfl
theorem st_call (f : Nat) (l : List AO) : awops call base (⟨d, .call f false l, none, r, false⟩ :: rest) Q env s = estep (acall (call f) false (l.map (aev env)) s) fun v t => awops call base rest Q (pE env d v) t := st_eff (op := .call f false l) (by simp) rfl rfl rfl
theorem st_callv (x : AO) (l : List AO) : awops call base (⟨d, .callv x false l, none, r, false⟩ :: rest) Q env s = estep (aeff call env s (.callv x false l)) fun v t => awops call base rest Q (pE env d v) t := st_eff (by simp) rfl rfl rfl
theorem st_store (n : Nat) (a x : AO) : awops call base (⟨d, .store n a x, none, r, false⟩ :: rest) Q env s = estep (aeff call env s (.store n a x)) fun v t => awops call base rest Q (pE env d v) t := st_eff (by simp) rfl rfl rfl
theorem st_storef (n : Nat) (a x : AO) : awops call base (⟨d, .store n a x, none, r, true⟩ :: rest) Q env s = estep (aeff call env { s with low := s.next } (.store n a x)) fun v t => if base ≤ t.low then awops call base rest Q (pE env d v) { t with low := min s.low t.low } else False := st_efff (by simp) rfl rfl rfl
theorem st_mkmap (x : Option AO) : awops call base (⟨d, .mkmap x, none, r, false⟩ :: rest) Q env s = estep (aeff call env s (.mkmap x)) fun v t => awops call base rest Q (pE env d v) t := st_eff (by simp) rfl rfl rfl
theorem st_mset (k : EK) (m i x : AO) : awops call base (⟨d, .mset k m i x, none, r, false⟩ :: rest) Q env s = estep (aeff call env s (.mset k m i x)) fun v t => awops call base rest Q (pE env d v) t := st_eff (by simp) rfl rfl rfl
theorem st_mdel (k : EK) (m i : AO) : awops call base (⟨d, .mdel k m i, none, r, false⟩ :: rest) Q env s = estep (aeff call env s (.mdel k m i)) fun v t => awops call base rest Q (pE env d v) t := st_eff (by simp) rfl rfl rfl
theorem st_rng (x : AO) : awops call base (⟨d, .rng x, none, r, false⟩ :: rest) Q env s = estep (aeff call env s (.rng x)) fun v t => awops call base rest Q (pE env d v) t := st_eff (by simp) rfl rfl rfl
theorem st_app (sz b : Nat) (z : List AV) (a x : AO) : awops call base (⟨d, .app sz b z a x, none, r, false⟩ :: rest) Q env s = estep (aeff call env s (.app sz b z a x)) fun v t => awops call base rest Q (pE env d v) t := st_eff (by simp) rfl rfl rfl
theorem st_appz (sz b : Nat) (z : List AV) (a x : AO) : awops call base (⟨d, .appz sz b z a x, none, r, false⟩ :: rest) Q env s = estep (aeff call env s (.appz sz b z a x)) fun v t => awops call base rest Q (pE env d v) t := st_eff (by simp) rfl rfl rfl
theorem st_clr (z : List AV) (x : AO) : awops call base (⟨d, .clr z x, none, r, false⟩ :: rest) Q env s = estep (aeff call env s (.clr z x)) fun v t => awops call base rest Q (pE env d v) t := st_eff (by simp) rfl rfl rfl
theorem st_copy (sz : Nat) (a x : AO) : awops call base (⟨d, .copy sz a x, none, r, false⟩ :: rest) Q env s = estep (aeff call env s (.copy sz a x)) fun v t => awops call base rest Q (pE env d v) t := st_eff (by simp) rfl rfl rfl
theorem st_allo (z : List AV) : awops call base (⟨d, .alloc z, none, none, fr⟩ :: rest) Q env s = awops call base rest Q (pE env d (.ptr s.next 0)) (s.push (.row z true)) := nrfl rfl
theorem st_allor (z : List AV) (j : Nat) : awops call base (⟨d, .alloc z, none, some j, fr⟩ :: rest) Q env s = bstep (s.get (base + j)) (awops call base rest Q (pE env d (.ptr (base + j) 0)) (s.born (base + j) (.row z true))) := st_allocr (op := .alloc z) (by simp) rfl rfl fun _ => rfl
theorem st_box (n : Nat) (x : AO) : awops call base (⟨d, .box n x, none, none, fr⟩ :: rest) Q env s = astep (aalloc env (.box n x)) fun v b => awops call base rest Q (pE env d (v s.next)) (s.push b) := st_alloc (by simp) rfl rfl fun _ => rfl
theorem st_boxr (n : Nat) (x : AO) (j : Nat) : awops call base (⟨d, .box n x, none, some j, fr⟩ :: rest) Q env s = astep (aalloc env (.box n x)) fun v b => bstep (s.get (base + j)) (awops call base rest Q (pE env d (v (base + j))) (s.born (base + j) b)) := st_allocr (by simp) rfl rfl fun _ => rfl
theorem st_bsl (z : List AV) (l n : Nat) (ps : List (Nat × AO)) : awops call base (⟨d, .bsl z l n ps, none, none, fr⟩ :: rest) Q env s = astep (aalloc env (.bsl z l n ps)) fun v b => awops call base rest Q (pE env d (v s.next)) (s.push b) := st_alloc (by simp) rfl rfl fun _ => rfl
theorem st_bslr (z : List AV) (l n : Nat) (ps : List (Nat × AO)) (j : Nat) : awops call base (⟨d, .bsl z l n ps, none, some j, fr⟩ :: rest) Q env s = astep (aalloc env (.bsl z l n ps)) fun v b => bstep (s.get (base + j)) (awops call base rest Q (pE env d (v (base + j))) (s.born (base + j) b)) := st_allocr (by simp) rfl rfl fun _ => rfl
theorem st_mksl (z : List AV) (n : Nat) (a b : AO) : awops call base (⟨d, .mksl z n a b, none, none, fr⟩ :: rest) Q env s = astep (aalloc env (.mksl z n a b)) fun v b => awops call base rest Q (pE env d (v s.next)) (s.push b) := st_alloc (by simp) rfl rfl fun _ => rfl
theorem st_mkslr (z : List AV) (n : Nat) (a b : AO) (j : Nat) : awops call base (⟨d, .mksl z n a b, none, some j, fr⟩ :: rest) Q env s = astep (aalloc env (.mksl z n a b)) fun v b => bstep (s.get (base + j)) (awops call base rest Q (pE env d (v (base + j))) (s.born (base + j) b)) := st_allocr (by simp) rfl rfl fun _ => rfl


/-! ### Steps behind a guard -/
def sel (b : Bool) (x : AV) : AV := if b then x else .und
theorem sel_true (x : AV) : sel true x = x := nrfl rfl
theorem sel_false (x : AV) : sel false x = .und := nrfl rfl
def gP (w : Bool) (v : AV) : Prop := isT w v = true
theorem gP_bt (b : Bool) : gP true (.bool b) = (b = true) := by cases b <;> simp [gP, isT]
theorem gP_bf (b : Bool) : gP false (.bool b) = (b = false) := by cases b <;> simp [gP, isT]
theorem gP_st (p b : Bool) : gP true (sel p (.bool b)) = (p = true ∧ b = true) := by cases p <;> cases b <;> simp [gP, isT, sel]
theorem gP_sf (p b : Bool) : gP false (sel p (.bool b)) = (p = true ∧ b = false) := by cases p <;> cases b <;> simp [gP, isT, sel]
theorem gP_und (w : Bool) : gP w .und = False := by simp [gP, isT]
def gpure (v : AV) (w : Bool) (o : Option AV) (K : AV → Prop) : Prop := gstep v w (pstep o K) (K .und)
@[congr] theorem gpure_congr {v v' : AV} {w : Bool} {g : Prop} {o o' : Option AV} (h : v = v') (hg : gP w v' = g) (ho : g → o = o') (K : AV → Prop) : gpure v w o K = gpure v' w o' K := by
  subst h
  subst hg
  unfold gpure
  by_cases hv : isT w v = true
  · rw [ho hv]
  · cases v <;> try rfl
    rename_i b
    cases b <;> cases w <;> first | rfl | exact absurd rfl hv
theorem gpure_bt (b : Bool) (x : AV) (K : AV → Prop) : gpure (.bool b) true (some x) K = K (sel b x) := by cases b <;> rfl
theorem gpure_bf (b : Bool) (x : AV) (K : AV → Prop) : gpure (.bool b) false (some x) K = K (sel (!b) x) := by cases b <;> rfl
theorem gpure_st (p b : Bool) (x : AV) (K : AV → Prop) : gpure (sel p (.bool b)) true (some x) K = K (sel (p && b) x) := by cases p <;> cases b <;> rfl
theorem gpure_sf (p b : Bool) (x : AV) (K : AV → Prop) : gpure (sel p (.bool b)) false (some x) K = K (sel (p && !b) x) := by cases p <;> cases b <;> rfl
theorem gpure_und (w : Bool) (o : Option AV) (K : AV → Prop) : gpure .und w o K = K .und := nrfl rfl
theorem gpure_tf (o : Option AV) (K : AV → Prop) : gpure (.bool true) false o K = K .und := nrfl rfl
theorem gpure_ft (o : Option AV) (K : AV → Prop) : gpure (.bool false) true o K = K .und := nrfl rfl
theorem gpure_sft (p : Bool) (o : Option AV) (K : AV → Prop) : gpure (sel p (.bool false)) true o K = K .und := by cases p <;> rfl
theorem gpure_stf (p : Bool) (o : Option AV) (K : AV → Prop) : gpure (sel p (.bool true)) false o K = K .und := by cases p <;> rfl
def gcall (s : St) (v : AV) (w : Bool) (o : Option (AV × St)) (K : AV → St → Prop) : Prop := gstep v w (estep o K) (K .und s)
@[congr] theorem gcall_congr {s : St} {v v' : AV} {w : Bool} {g : Prop} {o o' : Option (AV × St)} (h : v = v') (hg : gP w v' = g) (ho : g → o = o') (K : AV → St → Prop) : gcall s v w o K = gcall s v' w o' K := by
  subst h
  subst hg
  unfold gcall
  by_cases hv : isT w v = true
  · rw [ho hv]
  · cases v <;> try rfl
    rename_i b
    cases b <;> cases w <;> first | rfl | exact absurd rfl hv
theorem gcall_bt (s : St) (b : Bool) (x : AV) (K : AV → St → Prop) : gcall s (.bool b) true (some (x, s)) K = K (sel b x) s := by cases b <;> rfl
theorem gcall_bf (s : St) (b : Bool) (x : AV) (K : AV → St → Prop) : gcall s (.bool b) false (some (x, s)) K = K (sel (!b) x) s := by cases b <;> rfl
theorem gcall_st (s : St) (p b : Bool) (x : AV) (K : AV → St → Prop) : gcall s (sel p (.bool b)) true (some (x, s)) K = K (sel (p && b) x) s := by cases p <;> cases b <;> rfl
theorem gcall_sf (s : St) (p b : Bool) (x : AV) (K : AV → St → Prop) : gcall s (sel p (.bool b)) false (some (x, s)) K = K (sel (p && !b) x) s := by cases p <;> cases b <;> rfl
theorem gcall_und (s : St) (w : Bool) (o : Option (AV × St)) (K : AV → St → Prop) : gcall s .und w o K = K .und s := nrfl rfl
theorem gcall_tf (s : St) (o : Option (AV × St)) (K : AV → St → Prop) : gcall s (.bool true) false o K = K .und s := nrfl rfl
theorem gcall_ft (s : St) (o : Option (AV × St)) (K : AV → St → Prop) : gcall s (.bool false) true o K = K .und s := nrfl rfl
theorem gcall_sft (s : St) (p : Bool) (o : Option (AV × St)) (K : AV → St → Prop) : gcall s (sel p (.bool false)) true o K = K .und s := by cases p <;> rfl
theorem gcall_stf (s : St) (p : Bool) (o : Option (AV × St)) (K : AV → St → Prop) : gcall s (sel p (.bool true)) false o K = K .und s := by cases p <;> rfl
theorem gcall_tt (s : St) (o : Option (AV × St)) (K : AV → St → Prop) : gcall s (.bool true) true o K = estep o K := nrfl rfl
theorem gcall_ff (s : St) (o : Option (AV × St)) (K : AV → St → Prop) : gcall s (.bool false) false o K = estep o K := nrfl rfl

theorem sg_mv (x : AO) (t : Nat) (w : Bool) : awops call base (⟨d, .mv x, some (t, w), r, fr⟩ :: rest) Q env s = gpure (E env t) w (some (aev env x)) fun v => awops call base rest Q (pE env d v) s := by
  rw [st_guard, st_mv]
  rfl
theorem sg_pick (c a b : AO) (t : Nat) (w : Bool) : awops call base (⟨d, .pick c a b, some (t, w), r, fr⟩ :: rest) Q env s = gpure (E env t) w (apure env (.pick c a b)) fun v => awops call base rest Q (pE env d v) s := by
  rw [st_guard, st_pick]
  rfl
theorem sg_build (z : List AV) (ps : List (Nat × Nat × AO)) (t : Nat) (w : Bool) : awops call base (⟨d, .build z ps, some (t, w), r, fr⟩ :: rest) Q env s = gpure (E env t) w (apure env (.build z ps)) fun v => awops call base rest Q (pE env d v) s := by
  rw [st_guard, st_build]
  rfl
theorem sg_bin (o : BinOp) (k : EK) (x y : AO) (t : Nat) (w : Bool) : awops call base (⟨d, .bin o k x y, some (t, w), r, fr⟩ :: rest) Q env s = gpure (E env t) w (binOp o k (aev env x) (aev env y)) fun v => awops call base rest Q (pE env d v) s := by
  rw [st_guard, st_bin]
  rfl
theorem sg_un (o : UnOp) (x : AO) (t : Nat) (w : Bool) : awops call base (⟨d, .un o x, some (t, w), r, fr⟩ :: rest) Q env s = gpure (E env t) w (apure env (.un o x)) fun v => awops call base rest Q (pE env d v) s := by
  rw [st_guard, st_un]
  rfl
theorem sg_conv (k : IntKind) (x : AO) (t : Nat) (w : Bool) : awops call base (⟨d, .conv k x, some (t, w), r, fr⟩ :: rest) Q env s = gpure (E env t) w (apure env (.conv k x)) fun v => awops call base rest Q (pE env d v) s := by
  rw [st_guard, st_conv]
  rfl
theorem sg_mkfn (f : Nat) (x : List AO) (t : Nat) (w : Bool) : awops call base (⟨d, .mkfn f x, some (t, w), r, fr⟩ :: rest) Q env s = gpure (E env t) w (apure env (.mkfn f x)) fun v => awops call base rest Q (pE env d v) s := by
  rw [st_guard, st_mkfn]
  rfl
theorem sg_slc (n : Nat) (x : AO) (a b c : Option AO) (t : Nat) (w : Bool) : awops call base (⟨d, .slc n x a b c, some (t, w), r, fr⟩ :: rest) Q env s = gpure (E env t) w (apure env (.slc n x a b c)) fun v => awops call base rest Q (pE env d v) s := by
  rw [st_guard, st_slc]
  rfl
theorem sg_slcs (x : AO) (a b : Option AO) (t : Nat) (w : Bool) : awops call base (⟨d, .slcs x a b, some (t, w), r, fr⟩ :: rest) Q env s = gpure (E env t) w (apure env (.slcs x a b)) fun v => awops call base rest Q (pE env d v) s := by
  rw [st_guard, st_slcs]
  rfl
theorem sg_fad (o : Nat) (x : AO) (t : Nat) (w : Bool) : awops call base (⟨d, .fad o x, some (t, w), r, fr⟩ :: rest) Q env s = gpure (E env t) w (apure env (.fad o x)) fun v => awops call base rest Q (pE env d v) s := by
  rw [st_guard, st_fad]
  rfl
theorem sg_fld (b : Bool) (o n : Nat) (x : AO) (t : Nat) (w : Bool) : awops call base (⟨d, .fld b o n x, some (t, w), r, fr⟩ :: rest) Q env s = gpure (E env t) w (apure env (.fld b o n x)) fun v => awops call base rest Q (pE env d v) s := by
  rw [st_guard, st_fld]
  rfl
theorem sg_iad (n : Nat) (x i : AO) (t : Nat) (w : Bool) : awops call base (⟨d, .iad n x i, some (t, w), r, fr⟩ :: rest) Q env s = gpure (E env t) w (apure env (.iad n x i)) fun v => awops call base rest Q (pE env d v) s := by
  rw [st_guard, st_iad]
  rfl
theorem sg_idxs (x i : AO) (t : Nat) (w : Bool) : awops call base (⟨d, .idxs x i, some (t, w), r, fr⟩ :: rest) Q env s = gpure (E env t) w (apure env (.idxs x i)) fun v => awops call base rest Q (pE env d v) s := by
  rw [st_guard, st_idxs]
  rfl
theorem sg_ext (x : AO) (i : Nat) (t : Nat) (w : Bool) : awops call base (⟨d, .ext x i, some (t, w), r, fr⟩ :: rest) Q env s = gpure (E env t) w (apure env (.ext x i)) fun v => awops call base rest Q (pE env d v) s := by
  rw [st_guard, st_ext]
  rfl
theorem sg_len (x : AO) (t : Nat) (w : Bool) : awops call base (⟨d, .len .sl x, some (t, w), r, fr⟩ :: rest) Q env s = gpure (E env t) w (apure env (.len .sl x)) fun v => awops call base rest Q (pE env d v) s := by
  rw [st_guard, st_len]
  rfl
theorem sg_lens (x : AO) (t : Nat) (w : Bool) : awops call base (⟨d, .len .st x, some (t, w), r, fr⟩ :: rest) Q env s = gpure (E env t) w (apure env (.len .st x)) fun v => awops call base rest Q (pE env d v) s := by
  rw [st_guard, st_lens]
  rfl
theorem sg_cap (x : AO) (t : Nat) (w : Bool) : awops call base (⟨d, .cap x, some (t, w), r, fr⟩ :: rest) Q env s = gpure (E env t) w (apure env (.cap x)) fun v => awops call base rest Q (pE env d v) s := by
  rw [st_guard, st_cap]
  rfl
theorem sg_mm (b : Bool) (x : List AO) (t : Nat) (w : Bool) : awops call base (⟨d, .mm b x, some (t, w), r, fr⟩ :: rest) Q env s = gpure (E env t) w (apure env (.mm b x)) fun v => awops call base rest Q (pE env d v) s := by
  rw [st_guard, st_mm]
  rfl
theorem sg_nchk (x : AO) (t : Nat) (w : Bool) : awops call base (⟨d, .nchk x, some (t, w), r, fr⟩ :: rest) Q env s = gpure (E env t) w (apure env (.nchk x)) fun v => awops call base rest Q (pE env d v) s := by
  rw [st_guard, st_nchk]
  rfl
theorem sg_load1 (x : AO) (t : Nat) (w : Bool) : awops call base (⟨d, .load1 x, some (t, w), r, false⟩ :: rest) Q env s = gpure (E env t) w (aread call env s (.load1 x)) fun v => awops call base rest Q (pE env d v) s := by
  rw [st_guard, st_load1]
  rfl
theorem sg_loadn (n : Nat) (x : AO) (t : Nat) (w : Bool) : awops call base (⟨d, .loadn n x, some (t, w), r, false⟩ :: rest) Q env s = gpure (E env t) w (aread call env s (.loadn n x)) fun v => awops call base rest Q (pE env d v) s := by
  rw [st_guard, st_loadn]
  rfl
theorem sg_b2s (x : AO) (t : Nat) (w : Bool) : awops call base (⟨d, .b2s x, some (t, w), r, false⟩ :: rest) Q env s = gpure (E env t) w (aread call env s (.b2s x)) fun v => awops call base rest Q (pE env d v) s := by
  rw [st_guard, st_b2s]
  rfl
theorem sg_look (z : AV) (k : EK) (ok : Bool) (m i : AO) (t : Nat) (w : Bool) : awops call base (⟨d, .look z k ok m i, some (t, w), r, false⟩ :: rest) Q env s = gpure (E env t) w (aread call env s (.look z k ok m i)) fun v => awops call base rest Q (pE env d v) s := by
  rw [st_guard, st_look]
  rfl
theorem sg_lenm (x : AO) (t : Nat) (w : Bool) : awops call base (⟨d, .len .mp x, some (t, w), r, false⟩ :: rest) Q env s = gpure (E env t) w (aread call env s (.len .mp x)) fun v => awops call base rest Q (pE env d v) s := by
  rw [st_guard, st_lenm]
  rfl
theorem sg_ent (x : AO) (t : Nat) (w : Bool) : awops call base (⟨d, .ent x, some (t, w), r, false⟩ :: rest) Q env s = gpure (E env t) w (aread call env s (.ent x)) fun v => awops call base rest Q (pE env d v) s := by
  rw [st_guard, st_ent]
  rfl
theorem sg_calld (f : Nat) (l : List AO) (t : Nat) (w : Bool) : awops call base (⟨d, .call f true l, some (t, w), r, false⟩ :: rest) Q env s = gpure (E env t) w (aread call env s (.call f true l)) fun v => awops call base rest Q (pE env d v) s := by
  rw [st_guard, st_calld]
  rfl
theorem sg_callvd (x : AO) (l : List AO) (t : Nat) (w : Bool) : awops call base (⟨d, .callv x true l, some (t, w), r, false⟩ :: rest) Q env s = gpure (E env t) w (aread call env s (.callv x true l)) fun v => awops call base rest Q (pE env d v) s := by
  rw [st_guard, st_callvd]
  rfl
theorem sg_call (f : Nat) (l : List AO) (t : Nat) (w : Bool) : awops call base (⟨d, .call f false l, some (t, w), r, false⟩ :: rest) Q env s = gcall s (E env t) w (acall (call f) false (l.map (aev env)) s) fun v t => awops call base rest Q (pE env d v) t := by
  rw [st_guard, st_call]
  rfl
theorem sg_callv (x : AO) (l : List AO) (t : Nat) (w : Bool) : awops call base (⟨d, .callv x false l, some (t, w), r, false⟩ :: rest) Q env s = gcall s (E env t) w (aeff call env s (.callv x false l)) fun v t => awops call base rest Q (pE env d v) t := by
  rw [st_guard, st_callv]
  rfl

/-! ### Code -/
def cstep (v : AV) (A B : Prop) : Prop := match v with
  | .bool true => A
  | .bool false => B
  | _ => False
@[congr] theorem cstep_congr {v v' : AV} (h : v = v') (A B : Prop) : cstep v A B = cstep v' A B := by rw [h]
theorem cstep_true (A B : Prop) : cstep (.bool true) A B = A := nrfl rfl
theorem cstep_false (A B : Prop) : cstep (.bool false) A B = B := nrfl rfl
def noNxt (os : List AOper) : Bool := os.all fun o => match o.op with
  | .nxt _ => false
  | _ => true
theorem awops_some : ∀ (os : List AOper) (env : Env) (s : St), noNxt os = true → awops call base os Q env s → ∃ e t, aops call base os env s = some (e, t) ∧ Q e t
  | [], env, s, _, k => ⟨env, s, rfl, k⟩
  | o :: rest, env, s, hn, k => by
    simp only [noNxt, List.all_cons, Bool.and_eq_true] at hn
    simp only [awops] at k
    simp only [aops]
    split at k
    · rename_i hw
      split at k
      · rename_i x hx
        rw [hx] at hn
        exact absurd hn.1 (by simp)
      · split at k
        · rename_i v t hv
          exact awops_some rest _ _ hn.2 k
        · exact k.elim
    · rename_i hw
      exact awops_some rest _ _ hn.2 k
    · exact k.elim
theorem some_awops : ∀ (os : List AOper) (env : Env) (s : St), noNxt os = true → (∃ e t, aops call base os env s = some (e, t) ∧ Q e t) → awops call base os Q env s
  | [], env, s, _, k => by
    obtain ⟨e, t, h1, h2⟩ := k
    simp only [aops] at h1
    injection h1 with h1
    obtain ⟨rfl, rfl⟩ := Prod.mk.inj h1
    exact h2
  | o :: rest, env, s, hn, k => by
    simp only [noNxt, List.all_cons, Bool.and_eq_true] at hn
    obtain ⟨e, t, h1, h2⟩ := k
    simp only [awops]
    simp only [aops] at h1
    split at h1
    · rename_i hw
      split
      · rename_i x hx
        rw [hx] at hn
        exact absurd hn.1 (by simp)
      · split at h1
        · rename_i v t hv
          exact some_awops rest _ _ hn.2 ⟨e, _, h1, h2⟩
        · cases h1
    · rename_i hw
      exact some_awops rest _ _ hn.2 ⟨e, _, h1, h2⟩
    · cases h1
variable {Qx : AEx → Env → St → Prop}
theorem wp_regd' {k : Nat} {os : List AOper} (h : noNxt os = true) : awp call (.regd k os) Qx env s = awops call s.next os (Qx .nor) env (s.reserve k) :=
  propext ⟨fun q => some_awops os _ _ h q, fun q => awops_some os _ _ h q⟩
def rstep (b : Bool) (A B : Prop) : Prop := if b = true then A else B
@[congr] theorem rstep_congr {b b' : Bool} (h : b = b') (A B : Prop) : rstep b A B = rstep b' A B := by rw [h]
theorem rstep_true (A B : Prop) : rstep true A B = A := by simp [rstep]
def isNx : AOp → Bool
  | .nxt _ => false
  | _ => true
theorem noNxt_nil : noNxt [] = true := nrfl rfl
theorem noNxt_cons (o : AOper) (l : List AOper) : noNxt (o :: l) = (isNx o.op && noNxt l) := nrfl (by
  simp only [noNxt, List.all_cons, isNx])
theorem wp_regd (k : Nat) (os : List AOper) : awp call (.regd k os) Qx env s = rstep (noNxt os) (awops call s.next os (Qx .nor) env (s.reserve k)) (∃ env' s', aops call s.next os env (s.reserve k) = some (env', s') ∧ Qx .nor env' s') := by
  cases h : noNxt os
  · simp only [rstep, Bool.false_eq_true, if_false]
    rfl
  · rw [rstep_true]
    exact wp_regd' h
/-- What a region with loads between its writers is to show. -/
def chkE : List (Nat × Nat) → St → Env → Prop
  | [], _, _ => True
  | c :: r, s, e => (c.1 < elen e ∧ ald s (E e c.2) = some (E e c.1)) ∧ chkE r s e
theorem chkE_nil (s : St) (e : Env) : chkE [] s e = True := nrfl rfl
theorem chkE_of : ∀ {l : List (Nat × Nat)} {s : St} {e : Env}, chkE l s e → chkP l s e
  | [], _, _, _ => fun c hc => by simp at hc
  | c :: r, s, e, h => fun d hd => by
    rcases List.mem_cons.1 hd with rfl | hd
    · exact h.1
    · exact chkE_of h.2 d hd
theorem of_chkE : ∀ {l : List (Nat × Nat)} {s : St} {e : Env}, chkP l s e → chkE l s e
  | [], _, _, _ => trivial
  | c :: r, s, e, h => ⟨h c (by simp), of_chkE fun d hd => h d (by simp [hd])⟩
theorem wp_regw (os : List AOper) (chk : List (Nat × Nat)) : awp call (.regw os chk) Qx env s = rstep (noNxt os) (awops call s.next os (fun e t => chkE chk s e ∧ Qx .nor e t) env s) (∃ env' s', aops call s.next os env s = some (env', s') ∧ chkP chk s env' ∧ Qx .nor env' s') := by
  cases h : noNxt os
  · simp only [rstep, Bool.false_eq_true, if_false]
    rfl
  · rw [rstep_true]
    refine propext ⟨fun q => ?_, fun q => ?_⟩
    · obtain ⟨e, t, h1, h2, h3⟩ := q
      exact some_awops os _ _ h ⟨e, t, h1, of_chkE h2, h3⟩
    · obtain ⟨e, t, h1, h2, h3⟩ := awops_some os _ _ h q
      exact ⟨e, t, h1, chkE_of h2, h3⟩
theorem wp_reg (os : List AOper) : awp call (.reg os) Qx env s = awops call s.next os (Qx .nor) env s := nrfl rfl
theorem wp_skip : awp call .skip Qx env s = Qx .nor env s := nrfl rfl
theorem wp_exit (i : Nat) : awp call (.exit i) Qx env s = Qx (.exit i) env s := nrfl rfl
theorem wp_ret : awp call .ret Qx env s = Qx .ret env s := nrfl rfl
theorem wp_seq (a b : AC) : awp call (.seq a b) Qx env s = awp call a (fun x e t => match x with
    | .nor => awp call b Qx e t
    | x => Qx x e t) env s := nrfl rfl
theorem wp_block (i : Nat) (c : AC) : awp call (.block i c) Qx env s = awp call c (fun x e t => match x with
    | .exit j => if j = i then Qx .nor e t else Qx (.exit j) e t
    | x => Qx x e t) env s := nrfl rfl
theorem wp_cond (c : AO) (a b : AC) : awp call (.cond c a b) Qx env s = cstep (aev env c) (awp call a Qx env s) (awp call b Qx env s) := by
  simp only [awp, cstep]
  generalize aev env c = v
  cases v <;> rfl
theorem res1 (env : Env) (s : St) (a : Nat) : aresults env s [.t a] = some (E env a) := nrfl rfl
theorem res2 (env : Env) (s : St) (a b : Nat) : aresults env s [.t a, .t b] = some (.tup [E env a, E env b]) := nrfl rfl
theorem res0 (env : Env) (s : St) : aresults env s [] = some (.tup []) := nrfl rfl
theorem resc (env : Env) (s : St) (a n : Nat) : aresult env s (.celln a n) = match E env a with
  | .ptr id o => match s.get id with
    | some (.row cs _) => if o + n ≤ cs.length then some (.agg ((cs.drop o).take n)) else none
    | _ => none
  | _ => none := nrfl rfl
theorem rest_t (env : Env) (s : St) (b : Nat) : aresult env s (.t b) = some (E env b) := nrfl rfl
attribute [irreducible] pE E elen

end Go.AM
end
/-
  Lists in the abstract machine's memory: reading them, new ones, appending, what a caller is told. Own work of this project.
-/
section
namespace Go.AM
open Go

/-! ### How elements lie in cells -/
structure Cod (α : Type) where
  sz : Nat
  enc : α → List AV
  dec : List AV → Option α
  pos : 0 < sz
  len : ∀ x, (enc x).length = sz
  plain : ∀ x, (enc x).all AV.plain = true
  dec_enc : ∀ x, dec (enc x) = some x
  enc_dec : ∀ cs x, dec cs = some x → cs = enc x
variable {α : Type}
def Cod.cells (C : Cod α) (l : List α) : List AV := (l.map C.enc).flatten
def decL (C : Cod α) : Nat → List AV → Option (List α)
  | 0, _ => some []
  | n + 1, cs => match C.dec (cs.take C.sz), decL C n (cs.drop C.sz) with
    | some x, some r => some (x :: r)
    | _, _ => none
def read (C : Cod α) (s : St) : AV → Option (List α)
  | .nils => some []
  | .sl id off n _ z => if z = C.sz then match s.get id with
      | some (.row cs _) => if off + n * C.sz ≤ cs.length then decL C n (cs.drop off) else none
      | _ => none
    else none
  | _ => none
theorem cells_nil (C : Cod α) : C.cells [] = [] := rfl
theorem cells_cons (C : Cod α) (x : α) (l : List α) : C.cells (x :: l) = C.enc x ++ C.cells l := rfl
theorem cells_append (C : Cod α) (l m : List α) : C.cells (l ++ m) = C.cells l ++ C.cells m := by simp [Cod.cells]
theorem cells_one (C : Cod α) (x : α) : C.cells [x] = C.enc x := by simp [Cod.cells]
theorem cells_len (C : Cod α) (l : List α) : (C.cells l).length = l.length * C.sz := by
  induction l with
  | nil => simp [cells_nil]
  | cons x l ih => rw [cells_cons, List.length_append, ih, C.len, List.length_cons, Nat.succ_mul]; omega
theorem cells_plain (C : Cod α) (l : List α) : (C.cells l).all AV.plain = true := by
  induction l with
  | nil => rfl
  | cons x l ih => rw [cells_cons, List.all_append, C.plain, ih]; rfl
theorem plain_ren {v : AV} (f : Nat → Nat) (h : v.plain = true) : v.ren f = v := by cases v <;> simp_all [AV.plain, AV.ren]
theorem plains_rens (f : Nat → Nat) : ∀ {vs : List AV}, vs.all AV.plain = true → AV.rens f vs = vs
  | [], _ => rfl
  | v :: vs, h => by
    simp only [List.all_cons, Bool.and_eq_true] at h
    simp [AV.rens, plain_ren f h.1, plains_rens f h.2]
theorem decL_some {C : Cod α} : ∀ {n : Nat} {cs : List AV} {l : List α}, decL C n cs = some l → l.length = n ∧ n * C.sz ≤ cs.length ∧ cs.take (n * C.sz) = C.cells l
  | 0, cs, l, h => by
    simp only [decL] at h
    injection h with h
    subst h
    simp [cells_nil]
  | n + 1, cs, l, h => by
    simp only [decL] at h
    split at h
    · rename_i x r hx hr
      injection h with h
      subst h
      obtain ⟨h1, h2, h3⟩ := decL_some hr
      have e := C.enc_dec _ _ hx
      have hl := congrArg List.length e
      rw [C.len, List.length_take] at hl
      rw [List.length_drop] at h2
      have hp := C.pos
      refine ⟨by simp [h1], by rw [Nat.succ_mul]; omega, ?_⟩
      rw [cells_cons, ← e, ← h3, Nat.succ_mul, Nat.add_comm (n * C.sz), List.take_add]
    · cases h
theorem decL_cells (C : Cod α) : ∀ (l : List α) (r : List AV), decL C l.length (C.cells l ++ r) = some l
  | [], r => rfl
  | x :: l, r => by
    have h := C.len x
    have e1 : (C.enc x ++ (C.cells l ++ r)).take C.sz = C.enc x := by rw [← h]; simp
    have e2 : (C.enc x ++ (C.cells l ++ r)).drop C.sz = C.cells l ++ r := by rw [← h]; simp
    simp only [List.length_cons, decL, cells_cons, List.append_assoc, e1, e2, C.dec_enc, decL_cells C l r]
theorem cells_at (C : Cod α) : ∀ (l : List α) (i : Nat) (x : α), l[i]? = some x → ∀ k m, k + m ≤ C.sz → ((C.cells l).drop (i * C.sz + k)).take m = ((C.enc x).drop k).take m
  | [], i, x, h, _, _, _ => by simp at h
  | y :: l, 0, x, h, k, m, hk => by
    simp at h
    subst h
    have hl := C.len y
    rw [cells_cons, Nat.zero_mul, Nat.zero_add, List.drop_append_of_le_length (by omega), List.take_append_of_le_length (by rw [List.length_drop]; omega)]
  | y :: l, i + 1, x, h, k, m, hk => by
    have hl := C.len y
    rw [cells_cons, Nat.succ_mul, show i * C.sz + C.sz + k = (C.enc y).length + (i * C.sz + k) by omega, ← List.drop_drop, List.drop_left]
    exact cells_at C l i x (by simpa using h) k m hk
theorem read_sl {C : Cod α} {s : St} {id off n z : Nat} {cap : Option Nat} {l : List α} (h : read C s (.sl id off n cap z) = some l) :
    z = C.sz ∧ n = l.length ∧ ∃ cs own, s.get id = some (.row cs own) ∧ off + n * C.sz ≤ cs.length ∧ (cs.drop off).take (n * C.sz) = C.cells l ∧
      ∀ i x, l[i]? = some x → ∀ k m, k + m ≤ C.sz → off + i * C.sz + k + m ≤ cs.length ∧ (cs.drop (off + i * C.sz + k)).take m = ((C.enc x).drop k).take m := by
  simp only [read] at h
  split at h
  · rename_i hz
    split at h
    · rename_i cs own hg
      split at h
      · rename_i hle
        obtain ⟨h1, h2, h3⟩ := decL_some h
        refine ⟨hz, h1.symm, cs, own, hg, hle, h3, fun i x hi k m hk => ?_⟩
        have hlt := (List.getElem?_eq_some_iff.1 hi).1
        have hmul : i * C.sz + C.sz ≤ n * C.sz := by
          rw [← Nat.succ_mul]
          exact Nat.mul_le_mul_right _ (by omega)
        refine ⟨by omega, ?_⟩
        rw [← cells_at C l i x hi k m hk, ← h3, List.drop_take, List.take_take, List.drop_drop, Nat.min_eq_left (by omega), ← Nat.add_assoc]
      · cases h
    · cases h
  · cases h
theorem read_of {C : Cod α} {s : St} {id off n : Nat} {cap : Option Nat} {l : List α} {cs : List AV} {own : Bool} (hn : n = l.length) (h1 : s.get id = some (.row cs own)) (h2 : off + n * C.sz ≤ cs.length) (h3 : (cs.drop off).take (n * C.sz) = C.cells l) :
    read C s (.sl id off n cap C.sz) = some l := by
  subst hn
  simp only [read, if_true, h1, h2]
  have := decL_cells C l ((cs.drop off).drop (l.length * C.sz))
  rw [← h3, List.take_append_drop] at this
  exact this
/-- Behind what leaves the block as it was. -/
theorem read_mono {C : Cod α} {s t : St} {v : AV} {l : List α} (h : read C s v = some l) (k : ∀ id b, s.get id = some b → t.get id = some b) : read C t v = some l := by
  cases v with
  | nils => exact h
  | sl id off n cap z =>
    obtain ⟨rfl, hn, cs, own, hg, h1, h2, _⟩ := read_sl h
    exact read_of hn (k _ _ hg) h1 h2
  | _ => simp [read] at h
theorem read_len {C : Cod α} {s : St} {v : AV} {l : List α} (h : read C s v = some l) : lenOf v = some l.length := by
  cases v with
  | nils => simp [read] at h; subst h; rfl
  | sl id off n cap z =>
    obtain ⟨rfl, hn, _⟩ := read_sl h
    simp [lenOf, hn]
  | _ => simp [read] at h
theorem read_shown {C : Cod α} {s : St} {v : AV} {l : List α} (h : read C s v = some l) : shown s C.sz v = some (C.cells l) := by
  cases v with
  | nils => simp [read] at h; subst h; rfl
  | sl id off n cap z =>
    obtain ⟨rfl, hn, cs, own, hg, h1, h2, _⟩ := read_sl h
    simp [shown, hg, h1, h2]
  | _ => simp [read] at h
theorem read_take {C : Cod α} {s : St} {id off n z : Nat} {cap cap' : Option Nat} {l : List α} (h : read C s (.sl id off n cap z) = some l) (k : Nat) (hk : k ≤ n) : read C s (.sl id off k cap' z) = some (l.take k) := by
  obtain ⟨rfl, hn, cs, own, hg, h1, h2, _⟩ := read_sl h
  have hmul : k * C.sz ≤ n * C.sz := Nat.mul_le_mul_right _ hk
  refine read_of (by simp; omega) hg (by omega) ?_
  have hc : (C.cells l).take (k * C.sz) = C.cells (l.take k) := by
    conv => lhs; rw [← List.take_append_drop k l, cells_append]
    have : k * C.sz = (C.cells (l.take k)).length := by rw [cells_len, List.length_take, Nat.min_eq_left (by omega)]
    rw [this, List.take_left]
  rw [← hc, ← h2, List.take_take, Nat.min_eq_left hmul]

/-! ### What was there stays -/
structure Keep (s t : St) : Prop where
  next : s.next ≤ t.next
  get : ∀ id, id < s.next → t.get id = s.get id
  low : min s.low s.next ≤ t.low
theorem Keep.refl (s : St) : Keep s s := ⟨Nat.le_refl _, fun _ _ => rfl, by omega⟩
theorem Keep.push {s t : St} (h : Keep s t) (b : AB) : Keep s (t.push b) :=
  ⟨by have := h.next; simp; omega, fun id hid => by rw [St.get_push_old _ _ (by have := h.next; omega), h.get id hid], by simpa using h.low⟩
theorem Keep.put {s t : St} (h : Keep s t) {id : Nat} (b : AB) (h1 : s.next ≤ id) (h2 : id < t.next) : Keep s (t.put id b) :=
  ⟨by simpa using h.next, fun j hj => by rw [St.get_put_ne _ _ h2 (by omega), h.get j hj], by have := h.low; simp; omega⟩
theorem Keep.trans {a b c : St} (h : Keep a b) (k : Keep b c) : Keep a c :=
  ⟨Nat.le_trans h.next k.next, fun id hid => by rw [k.get id (Nat.lt_of_lt_of_le hid h.next), h.get id hid], by have h1 := h.low; have h2 := k.low; have h3 := h.next; omega⟩
theorem Keep.blk {s t : St} (h : Keep s t) {id : Nat} {b : AB} (hb : s.get id = some b) : t.get id = some b := by rw [h.get id (St.get_lt hb), hb]
theorem Keep.read {s t : St} (h : Keep s t) {C : Cod α} {v : AV} {l : List α} (hr : read C s v = Option.some l) : read C t v = Option.some l := read_mono hr fun _ _ => h.blk
theorem Keep.low' {s t : St} (h : Keep s t) (n : Nat) (hn : min s.low s.next ≤ n) : Keep s { heap := t.heap, next := t.next, low := n } := ⟨h.next, fun id hid => h.get id hid, hn⟩
theorem Keep.grow {s t : St} (h : Keep s t) : Grow s t := by
  refine ⟨h.next, fun id h1 h2 => ?_⟩
  rw [h.get id h1]
  exact h2

theorem gk_push {s t : St} (h : Grow s t ∧ Keeps s t) (b : AB) : Grow s (t.push b) ∧ Keeps s (t.push b) := ⟨h.1.trans (grow_push t b), h.2.trans (keeps_push t b)⟩
theorem gk_low (s : St) : Grow s { heap := s.heap, next := s.next, low := min s.low s.next } ∧ Keeps s { heap := s.heap, next := s.next, low := min s.low s.next } := ⟨⟨Nat.le_refl _, fun _ _ h => h⟩, Nat.le_refl _, Nat.min_le_left _ _, fun _ _ _ => rfl⟩
/-! ### A new list, whose block nobody else has -/
def Own (C : Cod α) (s t : St) (v : AV) (l : List α) : Prop :=
  (v = .nils ∧ l = []) ∨ ∃ j, v = .sl j 0 l.length none C.sz ∧ l ≠ [] ∧ s.next ≤ j ∧ t.get j = some (.row (C.cells l) true)
theorem Own.nil (C : Cod α) (s t : St) : Own C s t .nils [] := .inl ⟨rfl, rfl⟩
theorem Own.read {C : Cod α} {s t : St} {v : AV} {l : List α} (h : Own C s t v l) : read C t v = some l := by
  rcases h with ⟨rfl, rfl⟩ | ⟨j, rfl, _, _, h⟩
  · rfl
  · refine read_of rfl h (by simp [cells_len]) ?_
    rw [List.drop_zero, ← cells_len]
    simp
theorem Own.mono {C : Cod α} {s t u : St} {v : AV} {l : List α} (h : Own C s t v l) (k : ∀ id b, t.get id = some b → u.get id = some b) : Own C s u v l := by
  rcases h with ⟨rfl, rfl⟩ | ⟨j, rfl, h0, h1, h⟩
  · exact .inl ⟨rfl, rfl⟩
  · exact .inr ⟨j, rfl, h0, h1, k _ _ h⟩
theorem get_push_some {t : St} (b : AB) {id : Nat} {c : AB} (h : t.get id = some c) : (t.push b).get id = some c := by rw [St.get_push_old _ _ (St.get_lt h), h]
theorem Own.push {C : Cod α} {s t : St} {v : AV} {l : List α} (h : Own C s t v l) (b : AB) : Own C s (t.push b) v l := h.mono fun _ _ => get_push_some b
theorem append_own {C : Cod α} {s t : St} {v : AV} {l : List α} (hK : Keep s t) (hO : Own C s t v l) (m : List α) (bytes : Nat) (hb : (l.length + m.length) * bytes ≤ roomBytes) :
    ∃ v' t', aappend t C.sz bytes v (C.cells m) m.length = some (v', t') ∧ Keep s t' ∧ Own C s t' v' (l ++ m) := by
  by_cases hm : m = []
  · subst hm
    rcases hO with ⟨rfl, rfl⟩ | ⟨j, rfl, h0, h1, h⟩
    · exact ⟨.nils, t, by simp [aappend], hK, .nil _ _ _⟩
    · exact ⟨.sl j 0 l.length none C.sz, t, by simp [aappend, h], hK, by rw [List.append_nil]; exact .inr ⟨j, rfl, h0, h1, h⟩⟩
  · have hm0 : m.length ≠ 0 := by simpa using hm
    rcases hO with ⟨rfl, rfl⟩ | ⟨j, rfl, h0, h1, h⟩
    · refine ⟨.sl t.next 0 m.length none C.sz, t.push (.row (C.cells m) true), ?_, hK.push _, .inr ⟨t.next, by simp, by simpa using hm, hK.next, by simpa using St.get_push_new t _⟩⟩
      simp only [aappend, if_neg hm0]
      rw [if_pos (by simpa using hb)]
    · refine ⟨.sl t.next 0 (l.length + m.length) none C.sz, (t.put j .dead).push (.row (C.cells (l ++ m)) true), ?_, (hK.put .dead h1 (St.get_lt h)).push _, .inr ⟨t.next, by simp, by simp [hm], hK.next, by simpa using St.get_push_new (t.put j .dead) _⟩⟩
      simp only [aappend, if_true, h, if_neg hm0]
      rw [if_pos ⟨by simp [cells_len], hb⟩]
      have e : (C.cells l).take (l.length * C.sz) = C.cells l := by rw [← cells_len]; simp
      rw [List.drop_zero, e, cells_append]
/-! ### What a caller is told -/
def St.lowed (s : St) : St := { heap := s.heap, next := s.next, low := min s.low s.next }
/-- A new list: nil if it is empty. -/
def freshV (C : Cod α) (s : St) (l : List α) : AV := if l.isEmpty then .nils else .sl s.next 0 l.length none C.sz
def freshS (C : Cod α) (s : St) (l : List α) : St := if l.isEmpty then s.lowed else s.lowed.push (.row (C.cells l) true)
theorem lowed_get (s : St) (id : Nat) : s.lowed.get id = s.get id := rfl
theorem lowed_next (s : St) : s.lowed.next = s.next := rfl
theorem keep_lowed (s : St) : Keep s s.lowed := ⟨Nat.le_refl _, fun _ _ => rfl, Nat.le_refl _⟩
theorem gk_lowed (s : St) : Grow s s.lowed ∧ Keeps s s.lowed := gk_low s
theorem gk_fresh (C : Cod α) (s : St) (l : List α) : Grow s (freshS C s l) ∧ Keeps s (freshS C s l) := by
  unfold freshS
  split
  · exact gk_lowed s
  · exact gk_push (gk_lowed s) _
theorem emb_keep {s t : St} (h : Keep s t) : ∃ f : Nat → Nat, (∀ id, id < s.next → f id = id) ∧ Emb f s s.lowed t := by
  have hn := h.next
  refine ⟨fun id => if id < s.next then id else t.next + id, fun id hid => by simp [hid], ⟨Nat.le_refl _, h.low, fun id hid => by simp [hid], fun id hid => ?_, fun i j h1 h2 e => ?_, fun id b hb => ?_, fun id h1 h2 => rfl⟩⟩
  · have : ¬ id < s.next := by simp [lowed_next] at hid; omega
    simp [this]
  · rw [lowed_next] at h1 h2
    simpa [h1, h2] using e
  · have hlt : id < s.next := St.get_lt (by rwa [lowed_get] at hb)
    rw [lowed_get] at hb
    exact .inr (.inr ⟨hlt, hb, h.blk hb⟩)
theorem emb_fresh {C : Cod α} {s t : St} (h : Keep s t) {v : AV} {l : List α} (hO : Own C s t v l) : ∃ f : Nat → Nat, (∀ id, id < s.next → f id = id) ∧ Emb f s (freshS C s l) t ∧ v = (freshV C s l).ren f := by
  rcases hO with ⟨rfl, rfl⟩ | ⟨j, rfl, hl, h1, hj⟩
  · obtain ⟨f, h1, h2⟩ := emb_keep h
    exact ⟨f, h1, h2, by simp [freshV, AV.ren]⟩
  · have hn := h.next
    have hlow := h.low
    have hlt := St.get_lt hj
    have hle : l.isEmpty = false := by simpa using hl
    have e0 : freshS C s l = s.lowed.push (.row (C.cells l) true) := by simp [freshS, hle]
    have e1 : (freshS C s l).next = s.next + 1 := by rw [e0]; rfl
    have e2 : ∀ id, (freshS C s l).get id = if id = s.next then some (.row (C.cells l) true) else s.get id := fun id => by rw [e0, St.get_push]; rfl
    refine ⟨fun id => if id < s.next then id else if id = s.next then j else t.next + id, fun id hid => by simp [hid], ⟨by omega, ?_, fun id hid => by simp [hid], fun id hid => ?_, fun i k h1 h2 e => ?_, fun id b hb => ?_, fun id h1 h2 => ?_⟩, ?_⟩
    · rw [e0]
      exact hlow
    · rw [e1] at hid
      rw [if_neg (by omega), if_neg (by omega)]
      omega
    · rw [e1] at h1 h2
      by_cases a1 : i < s.next
      · by_cases a2 : k < s.next
        · rw [if_pos a1, if_pos a2] at e; exact e
        · rw [if_pos a1, if_neg a2, if_pos (by omega)] at e; omega
      · by_cases a2 : k < s.next
        · rw [if_neg a1, if_pos a2, if_pos (by omega)] at e; omega
        · omega
    · rw [e2] at hb
      split at hb
      · rename_i hid
        injection hb with hb
        subst hb
        refine .inr (.inl ?_)
        rw [if_neg (by omega), if_pos hid, hj, AB.ren, plains_rens _ (cells_plain C l)]
      · have hid := St.get_lt hb
        exact .inr (.inr ⟨hid, hb, h.blk hb⟩)
    · rw [e2, if_neg (by omega)]
    · simp [freshV, hle, AV.ren]
end Go.AM
end
/-
  Dots and nodes in memory; rules for stepping that keep them folded. Own work of this project.
-/
section
namespace Go.AM
open Go

/-! ### Numbers of blocks -/
def sameN (n : Nat) (s : St) : Prop := n = s.next
def ltN (n : Nat) (s : St) : Prop := n < s.next
theorem same_self (s : St) : sameN s.next s = True := eq_true rfl
theorem same_push {s t : St} (h : sameN s.next t) (b c : AB) : sameN (s.push b).next (t.push c) = True := eq_true (by unfold sameN at *; simp [h])
theorem same_lowed {n : Nat} {t : St} (h : sameN n t) : sameN n t.lowed = True := eq_true h
theorem same_lowed' {s t : St} (h : sameN s.next t) : sameN s.lowed.next t = True := eq_true h
theorem lt_push {n : Nat} {t : St} (h : ltN n t) (b : AB) : ltN n (t.push b) = True := eq_true (Nat.lt_succ_of_lt h)
theorem lt_push_same {n : Nat} {t : St} (h : sameN n t) (b : AB) : ltN n (t.push b) = True := eq_true (by unfold sameN at h; unfold ltN; simp [h])
theorem lt_lowed {n : Nat} {t : St} (h : ltN n t) : ltN n t.lowed = True := eq_true h
/-! ### Loads and stores by value -/
def lod (s : St) (n : Nat) (v : AV) : Option AV := match v with
  | .ptr id o => match s.get id with
    | some (.row cs _) => if o + n ≤ cs.length then some (.agg ((cs.drop o).take n)) else none
    | _ => none
  | _ => none
def lod1 (s : St) (v : AV) : Option AV := match v with
  | .ptr id o => match s.get id with
    | some (.row cs _) => cs[o]?
    | _ => none
  | _ => none
theorem chkE_cons (t x : Nat) (r : List (Nat × Nat)) (s : St) (e : Env) : chkE ((t, x) :: r) s e = ((t < elen e ∧ lod1 s (E e x) = some (E e t)) ∧ chkE r s e) := nrfl rfl
def sto (s : St) (n : Nat) (a x : AV) : Option (AV × St) := match a with
  | .ptr id o => match s.get id with
    | some (.row cs true) => if x.cells.length = n ∧ x.cells.all AV.one ∧ o + n ≤ cs.length then some (.und, s.put id (.row (setAt cs o x.cells) true)) else none
    | _ => none
  | _ => none
variable {call : Nat → List AV → St → Option (AV × St)} {env : Env} {s t : St}
theorem ar_loadn (n : Nat) (a : AO) : aread call env s (.loadn n a) = lod s n (aev env a) := nrfl rfl
theorem ar_load1 (a : AO) : aread call env s (.load1 a) = lod1 s (aev env a) := nrfl rfl
theorem ae_store (n : Nat) (a x : AO) : aeff call env s (.store n a x) = sto s n (aev env a) (aev env x) := nrfl rfl
def iadV (sz : Nat) (x i : AV) : Option AV := match x, i with
  | .sl id off len _ z, .int _ n => if z = sz ∧ 0 ≤ n ∧ n < len then some (.ptr id (off + n.toNat * sz)) else none
  | _, _ => none
theorem ap_iad (sz : Nat) (x i : AO) : apure env (.iad sz x i) = iadV sz (aev env x) (aev env i) := nrfl rfl
theorem iadV_nat {sz id off len : Nat} {cap : Option Nat} {k : IntKind} {i : Nat} (h : i < len) : iadV sz (.sl id off len cap sz) (.int k (i : Int)) = some (.ptr id (off + i * sz)) := by
  simp [iadV, h]
def fadV (o : Nat) : AV → Option AV
  | .ptr id p => some (.ptr id (p + o))
  | _ => none
theorem ap_fad (o : Nat) (x : AO) : apure env (.fad o x) = fadV o (aev env x) := nrfl rfl
theorem fadV_ptr (o id p : Nat) : fadV o (.ptr id p) = some (.ptr id (p + o)) := nrfl rfl
def lenV : AV → Option AV
  | .sl _ _ n _ _ => some (.int .i64 (n : Int))
  | .nils => some (.int .i64 0)
  | _ => none
theorem ap_len (x : AO) : apure env (.len .sl x) = lenV (aev env x) := nrfl rfl
theorem lenV_sl (a b n : Nat) (c : Option Nat) (z : Nat) : lenV (.sl a b n c z) = some (.int .i64 (n : Int)) := nrfl rfl
theorem lenV_nils : lenV .nils = some (.int .i64 0) := nrfl rfl
theorem lenV_read {α : Type} {C : Cod α} {v : AV} {l : List α} (h : read C s v = some l) : lenV v = some (.int .i64 (l.length : Int)) := by
  cases v with
  | nils => simp [read] at h; subst h; rfl
  | sl id off n cap z =>
    obtain ⟨_, rfl, _⟩ := read_sl h
    rfl
  | _ => simp [read] at h
def pickV (c a b : AV) : Option AV := match c with
  | .bool t => some (if t then a else b)
  | _ => none
theorem ap_pick (c a b : AO) : apure env (.pick c a b) = pickV (aev env c) (aev env a) (aev env b) := nrfl rfl
theorem pickV_t (a b : AV) : pickV (.bool true) a b = some a := nrfl rfl
theorem pickV_f (a b : AV) : pickV (.bool false) a b = some b := nrfl rfl
def notV : AV → Option AV
  | .bool b => some (.bool !b)
  | _ => none
theorem ap_not (x : AO) : apure env (.un .not x) = notV (aev env x) := by
  simp only [apure, notV]
  cases aev env x <;> rfl
theorem notV_bool (b : Bool) : notV (.bool b) = some (.bool !b) := nrfl rfl
def extV (i : Nat) : AV → Option AV
  | .tup vs => vs[i]?
  | _ => none
theorem ap_ext (x : AO) (i : Nat) : apure env (.ext x i) = extV i (aev env x) := nrfl rfl
theorem extV_0 (v : AV) (l : List AV) : extV 0 (.tup (v :: l)) = some v := nrfl rfl
theorem extV_1 (v w : AV) (l : List AV) : extV 1 (.tup (v :: w :: l)) = some w := nrfl rfl
def fstep (cs : List AV) (off n : Nat) (v : AV) (K : List AV → Option (List AV)) : Option (List AV) :=
  if v.cells.length = n ∧ v.cells.all AV.one ∧ off + n ≤ cs.length then K (setAt cs off v.cells) else none
theorem fillP_nil (cs : List AV) : fillP env cs [] = some cs := nrfl rfl
theorem fillP_cons (cs : List AV) (off n : Nat) (x : AO) (r : List (Nat × Nat × AO)) : fillP env cs ((off, n, x) :: r) = fstep cs off n (aev env x) fun cs => fillP env cs r := nrfl rfl
theorem fstep_nd (x : Nd) (K : List AV → Option (List AV)) : fstep [.int .i64 0, .int .i64 0, .int .i64 0, .int .i64 0, .int .i64 0, .int .i32 0] 0 6 (.agg (Nd.av x)) K = K (Nd.av x) := nrfl rfl
theorem fstep_dot (x : Dot) (K : List AV → Option (List AV)) : fstep [.int .i64 0, .int .i64 0] 0 2 (.agg (Dot.av x)) K = K (Dot.av x) := nrfl rfl
theorem aa_bsl1 (z : List AV) (sz : Nat) (x : AO) : aalloc env (.bsl z 1 sz [(0, x)]) = (fstep z 0 sz (aev env x) some).map fun cs => (fun id => .sl id 0 1 (some 1) sz, .row cs true) := by
  simp only [aalloc, List.map_cons, List.map_nil, Nat.zero_mul, fillP_cons]
  rfl

/-! ### A box for one value -/
theorem push_put (s : St) (b c : AB) : (s.push b).put s.next c = s.lowed.push c := by
  simp [St.push, St.put, St.lowed]
theorem reserve0 (s : St) : s.reserve 0 = s := nrfl rfl
theorem reserve1_get (s : St) : (s.reserve 1).get (s.next + 0) = some .unborn := by simp [St.get_reserve]
theorem reserve1_get' (s : St) : (s.reserve 1).get s.next = some .unborn := by simp [St.get_reserve]
theorem reserve1_born (s : St) (b : AB) : (s.reserve 1).born (s.next + 0) b = s.push b := by simp [St.reserve, St.push, St.born]
theorem reserve1_born' (s : St) (b : AB) : (s.reserve 1).born s.next b = s.push b := by simp [St.reserve, St.push, St.born]
theorem sto_nd {n : Nat} {s : St} (h : sameN n s) (x : Nd) : sto (s.push (.row [.int .i64 0, .int .i64 0, .int .i64 0, .int .i64 0, .int .i64 0, .int .i32 0] true)) 6 (.ptr n 0) (.agg (Nd.av x)) = some (.und, s.lowed.push (.row (Nd.av x) true)) := by
  unfold sameN at h
  subst h
  simp only [sto, St.get_push_new, push_put]
  rfl
theorem lod_nd {n : Nat} {s : St} (h : sameN n s) (x : Nd) (own : Bool) : lod (s.push (.row (Nd.av x) own)) 6 (.ptr n 0) = some (.agg (Nd.av x)) := by
  unfold sameN at h
  subst h
  simp only [lod, St.get_push_new]
  rfl
theorem lod_nd_dot {n : Nat} {s : St} (h : sameN n s) (x : Nd) (own : Bool) : lod (s.push (.row (Nd.av x) own)) 2 (.ptr n 0) = some (.agg (Dot.av x.d)) := by
  unfold sameN at h
  subst h
  simp only [lod, St.get_push_new]
  rfl
theorem Keep.lowed {s t : St} (h : Keep s t) : Keep s t.lowed := h.trans (keep_lowed t)
theorem Own.lowed {α : Type} {C : Cod α} {s t : St} {v : AV} {l : List α} (h : Own C s t v l) : Own C s t.lowed v l := h.mono fun _ _ k => k

theorem kt_refl (s : St) : Keep s s = True := eq_true (.refl s)
theorem kt_push (h : Keep s t) (b : AB) : Keep s (t.push b) = True := eq_true (h.push b)
theorem kt_lowed (h : Keep s t) : Keep s t.lowed = True := eq_true (h.trans (keep_lowed t))
/-! ### Operators -/
theorem bin_lss (e : EK) (k : IntKind) (a b : Int) : binOp .lss e (.int k a) (.int k b) = some (.bool (decide (a < b))) := by simp [binOp, intOp]
theorem bin_leq (e : EK) (k : IntKind) (a b : Int) : binOp .leq e (.int k a) (.int k b) = some (.bool (decide (a ≤ b))) := by simp [binOp, intOp]
theorem bin_gtr (e : EK) (k : IntKind) (a b : Int) : binOp .gtr e (.int k a) (.int k b) = some (.bool (decide (b < a))) := by simp [binOp, intOp]
theorem bin_geq (e : EK) (k : IntKind) (a b : Int) : binOp .geq e (.int k a) (.int k b) = some (.bool (decide (b ≤ a))) := by simp [binOp, intOp]
theorem bin_eql (e : EK) (k : IntKind) (a b : Int) : binOp .eql e (.int k a) (.int k b) = some (.bool (decide (a = b))) := by simp [binOp, intOp, beq_dec]
theorem bin_neq (e : EK) (k : IntKind) (a b : Int) : binOp .neq e (.int k a) (.int k b) = some (.bool (!decide (a = b))) := by simp [binOp, intOp, bne_dec]
theorem bin_add (e : EK) (k : IntKind) (a b : Int) : binOp .add e (.int k a) (.int k b) = some (.int k (k.wrap (a + b))) := by simp [binOp, intOp]
theorem bin_sub (e : EK) (k : IntKind) (a b : Int) : binOp .sub e (.int k a) (.int k b) = some (.int k (k.wrap (a - b))) := by simp [binOp, intOp]
theorem bin_eqb (a b : Bool) : binOp .eql .bo (.bool a) (.bool b) = some (.bool (a == b)) := nrfl rfl
theorem bin_neb (a b : Bool) : binOp .neq .bo (.bool a) (.bool b) = some (.bool (!(a == b))) := nrfl rfl
theorem bin_eqd (a b : Dot) : binOp .eql (.fl [.i, .i]) (.agg (Dot.av a)) (.agg (Dot.av b)) = some (.bool (decide (a = b))) := by
  obtain ⟨a1, a2⟩ := a
  obtain ⟨b1, b2⟩ := b
  simp [binOp, eqV, eqL, eqF, Dot.av, beq_dec]
theorem bin_neqd (a b : Dot) : binOp .neq (.fl [.i, .i]) (.agg (Dot.av a)) (.agg (Dot.av b)) = some (.bool (!decide (a = b))) := by
  obtain ⟨a1, a2⟩ := a
  obtain ⟨b1, b2⟩ := b
  simp [binOp, eqV, eqL, eqF, Dot.av, beq_dec]
theorem bin_eqd0 (a : Dot) : binOp .eql (.fl [.i, .i]) (.agg (Dot.av a)) (.agg [.int .i64 0, .int .i64 0]) = some (.bool (decide (a = ⟨0, 0⟩))) := bin_eqd a ⟨0, 0⟩
theorem bin_neqd0 (a : Dot) : binOp .neq (.fl [.i, .i]) (.agg (Dot.av a)) (.agg [.int .i64 0, .int .i64 0]) = some (.bool (!decide (a = ⟨0, 0⟩))) := bin_neqd a ⟨0, 0⟩
theorem bin_eqn (a b : Nd) : binOp .eql (.fl [.i, .i, .i, .i, .i, .i]) (.agg (Nd.av a)) (.agg (Nd.av b)) = some (.bool (decide (a = b))) := by
  obtain ⟨⟨a1, a2⟩, ⟨a3, a4⟩, a5, a6⟩ := a
  obtain ⟨⟨b1, b2⟩, ⟨b3, b4⟩, b5, b6⟩ := b
  simp [binOp, eqV, eqL, eqF, Nd.av, beq_dec, Bool.and_assoc, Bool.decide_and, and_assoc]
theorem bin_neqn (a b : Nd) : binOp .neq (.fl [.i, .i, .i, .i, .i, .i]) (.agg (Nd.av a)) (.agg (Nd.av b)) = some (.bool (!decide (a = b))) := by
  have := bin_eqn a b
  simp only [binOp, Option.map_eq_some_iff] at this ⊢
  obtain ⟨x, h1, h2⟩ := this
  injection h2 with h2
  exact ⟨x, h1, by rw [h2]⟩
theorem pickV_or (c y : Bool) : pickV (.bool c) (.bool true) (.bool y) = some (.bool (c || y)) := by cases c <;> rfl
theorem pickV_ors (c y : Bool) : pickV (.bool c) (.bool true) (sel (!c) (.bool y)) = some (.bool (c || y)) := by cases c <;> rfl
theorem pickV_and (c y : Bool) : pickV (.bool c) (.bool y) (.bool false) = some (.bool (c && y)) := by cases c <;> rfl
theorem pickV_ands (c y : Bool) : pickV (.bool c) (sel c (.bool y)) (.bool false) = some (.bool (c && y)) := by cases c <;> rfl
theorem pickV_orn (c y : Bool) : pickV (.bool (!c)) (.bool true) (sel c (.bool y)) = some (.bool (!c || y)) := by cases c <;> rfl
theorem ar_call (f : Nat) (l : List AO) : aread call env s (.call f true l) = (acall (call f) true (l.map (aev env)) s).map (·.1) := nrfl rfl
def boxV (n : Nat) (v : AV) : Option ((Nat → AV) × AB) := if v.cells.length = n ∧ v.cells.all AV.one then some (fun id => .ptr id 0, .row v.cells true) else none
theorem aa_box (n : Nat) (x : AO) : aalloc env (.box n x) = boxV n (aev env x) := nrfl rfl
theorem boxV_dot (d : Dot) : boxV 2 (.agg (Dot.av d)) = some (fun id => .ptr id 0, .row (Dot.av d) true) := nrfl rfl
theorem boxV_nd (d : Nd) : boxV 6 (.agg (Nd.av d)) = some (fun id => .ptr id 0, .row (Nd.av d) true) := nrfl rfl
theorem lod_push_lt {id : Nat} (h : ltN id s) (b : AB) (n o : Nat) : lod (s.push b) n (.ptr id o) = lod s n (.ptr id o) := by
  simp only [lod, St.get_push_old _ _ h]
theorem lod1_push_lt {id : Nat} (h : ltN id s) (b : AB) (o : Nat) : lod1 (s.push b) (.ptr id o) = lod1 s (.ptr id o) := by
  simp only [lod1, St.get_push_old _ _ h]
theorem lod_lowed (n : Nat) (v : AV) : lod s.lowed n v = lod s n v := by cases v <;> rfl
theorem lod1_lowed (v : AV) : lod1 s.lowed v = lod1 s v := by cases v <;> rfl
theorem lod_lowd (n m : Nat) (v : AV) : lod { heap := s.heap, next := s.next, low := m } n v = lod s n v := by cases v <;> rfl
theorem lod1_lowd (m : Nat) (v : AV) : lod1 { heap := s.heap, next := s.next, low := m } v = lod1 s v := by cases v <;> rfl
theorem lod_nd_par {n : Nat} {s : St} (h : sameN n s) (x : Nd) (own : Bool) : lod (s.push (.row (Nd.av x) own)) 2 (.ptr n 2) = some (.agg (Dot.av x.p)) := by
  unfold sameN at h
  subst h
  simp only [lod, St.get_push_new]
  rfl
theorem lod1_nd_t {n : Nat} {s : St} (h : sameN n s) (x : Nd) (own : Bool) : lod1 (s.push (.row (Nd.av x) own)) (.ptr n 4) = some (.int .i64 x.t) := by
  unfold sameN at h
  subst h
  simp only [lod1, St.get_push_new]
  rfl
theorem lod1_nd_x {n : Nat} {s : St} (h : sameN n s) (x : Nd) (own : Bool) : lod1 (s.push (.row (Nd.av x) own)) (.ptr n 5) = some (.int .i32 x.x) := by
  unfold sameN at h
  subst h
  simp only [lod1, St.get_push_new]
  rfl
theorem lod_dot {n : Nat} {s : St} (h : sameN n s) (x : Dot) (own : Bool) : lod (s.push (.row (Dot.av x) own)) 2 (.ptr n 0) = some (.agg (Dot.av x)) := by
  unfold sameN at h
  subst h
  simp only [lod, St.get_push_new]
  rfl
theorem lod1_dot_r {n : Nat} {s : St} (h : sameN n s) (x : Dot) (own : Bool) : lod1 (s.push (.row (Dot.av x) own)) (.ptr n 0) = some (.int .i64 x.r) := by
  unfold sameN at h
  subst h
  simp only [lod1, St.get_push_new]
  rfl
theorem lod1_dot_c {n : Nat} {s : St} (h : sameN n s) (x : Dot) (own : Bool) : lod1 (s.push (.row (Dot.av x) own)) (.ptr n 1) = some (.int .i64 x.c) := by
  unfold sameN at h
  subst h
  simp only [lod1, St.get_push_new]
  rfl
theorem sto_nd0 {n : Nat} {s : St} (h : sameN n s) : sto (s.push (.row [.int .i64 0, .int .i64 0, .int .i64 0, .int .i64 0, .int .i64 0, .int .i32 0] true)) 6 (.ptr n 0) (.agg [.int .i64 0, .int .i64 0, .int .i64 0, .int .i64 0, .int .i64 0, .int .i32 0]) = some (.und, s.lowed.push (.row (Nd.av ⟨⟨0, 0⟩, ⟨0, 0⟩, 0, 0⟩) true)) := sto_nd h ⟨⟨0, 0⟩, ⟨0, 0⟩, 0, 0⟩
theorem sto_push_lt {id : Nat} (h : ltN id s) (b : AB) (n o : Nat) (x : AV) : sto (s.push b) n (.ptr id o) x = (sto s n (.ptr id o) x).map fun r => (r.1, r.2.push b) := by
  unfold ltN at h
  have e : ∀ c, (s.push b).put id c = (s.put id c).push b := by
    intro c
    have : s.next + 1 - 1 - id = s.next - 1 - id + 1 := by omega
    simp only [St.push, St.put, this, List.set_cons_succ]
  simp only [sto, St.get_push_old _ _ h, e]
  split
  · split <;> rfl
  · rfl
theorem sto_nd_x {n : Nat} {s : St} (h : sameN n s) (x : Nd) (k : Int) : sto (s.push (.row (Nd.av x) true)) 1 (.ptr n 5) (.int .i32 k) = some (.und, s.lowed.push (.row (Nd.av { x with x := k }) true)) := by
  unfold sameN at h
  subst h
  simp only [sto, St.get_push_new, push_put]
  rfl
theorem sto_nd_t {n : Nat} {s : St} (h : sameN n s) (x : Nd) (k : Int) : sto (s.push (.row (Nd.av x) true)) 1 (.ptr n 4) (.int .i64 k) = some (.und, s.lowed.push (.row (Nd.av { x with t := k }) true)) := by
  unfold sameN at h
  subst h
  simp only [sto, St.get_push_new, push_put]
  rfl
theorem ap_build (z : List AV) (ps : List (Nat × Nat × AO)) : apure env (.build z ps) = (fillP env z ps).map .agg := nrfl rfl
theorem rc1 (env : Env) (s : St) (a n : Nat) : aresults env s [.celln a n] = lod s n (E env a) := by
  have h1 : aresult env s (.celln a n) = lod s n (E env a) := resc env s a n
  simp only [aresults, List.mapM_cons, List.mapM_nil, h1]
  cases lod s n (E env a) <;> rfl
theorem rc2 (env : Env) (s : St) (a n b : Nat) : aresults env s [.celln a n, .t b] = (lod s n (E env a)).map fun v => .tup [v, E env b] := by
  have h1 : aresult env s (.celln a n) = lod s n (E env a) := resc env s a n
  have h2 : aresult env s (.t b) = some (E env b) := rest_t env s b
  simp only [aresults, List.mapM_cons, List.mapM_nil, h1, h2]
  cases lod s n (E env a) <;> rfl

/-! ### Calls -/
theorem SoundAt.lowed {P : Program} {g : Nat} {c c' : Con} (h : SoundAt P g c) (k : ∀ xs s r s', c' xs s = some (r, s') → s' = s.lowed ∧ c xs s = some (r, s)) : SoundAt P g c' := by
  intro xs s r s' hc
  obtain ⟨rfl, h1⟩ := k xs s r s' hc
  obtain ⟨a1, a2, a3⟩ := h xs s r s h1
  refine ⟨a1, gk_lowed s, fun ρ w cargs hf hR hargs => (a3 ρ w cargs hf hR hargs).mono fun e w' hp => ?_⟩
  obtain ⟨ρ', v, h2, h3, h4, h5⟩ := hp
  refine ⟨ρ', v, h2, h3, ⟨Nat.le_refl _, Nat.min_le_left _ _, h4.ren, h4.size, h4.os, h4.tape, h4.output, h4.drawn, fun b hb H => h4.frame b hb fun id L blk e1 => H id L blk (Nat.le_trans (Nat.min_le_left _ _) e1), h4.old, fun id L blk e1 e2 e3 e4 => ?_, fun _ _ _ => rfl⟩, ⟨h5.bound, h5.blk, h5.inj⟩⟩
  exact absurd (St.get_lt e3) (by rw [lowed_next]; omega)
theorem plains_ren (f : Nat → Nat) {v : AV} (h : v.plains = true) : v.ren f = v := by
  cases v
  case agg cs => simp only [AV.plains] at h; simp [AV.ren, plains_rens f h]
  all_goals exact plain_ren f (by simpa [AV.plains] using h)
theorem ground_ren (f : Nat → Nat) {v : AV} (h : v.ground = true) : v.ren f = v := by
  cases v
  case agg cs => simp only [AV.ground] at h; simp [AV.ren, plains_rens f h]
  case tup vs =>
    simp only [AV.ground] at h
    simp only [AV.ren, rens_map]
    congr 1
    refine map_same fun v hv => plains_ren f ?_
    rw [List.all_eq_true] at h
    exact h v hv
  all_goals exact plain_ren f (by simpa [AV.ground] using h)
end Go.AM
end
/-
  Loops; elements of lists that an argument shows; contracts of functions of lists. Own work of this project.
-/
section
namespace Go.AM
open Go

variable {call : Nat → List AV → St → Option (AV × St)} {env : Env} {s t : St}

/-! ### A loop, its continuation held back from rewriting -/
class HQ where
  q : AEx → Env → St → Prop
def lwp (call : Nat → List AV → St → Option (AV × St)) (c : AC) (env : Env) (s : St) [h : HQ] : Prop := awp call (.loop c) h.q env s
theorem wp_loop (c : AC) (Q : AEx → Env → St → Prop) : awp call (.loop c) Q env s = @lwp call c env s ⟨Q⟩ := nrfl rfl
theorem lwp_inv {c : AC} {Q : AEx → Env → St → Prop} (I : Nat → Env → St → Prop) {n : Nat} (h : I n env s)
    (step : ∀ n e t, I n e t → awp call c (fun x e' t' => match x with
      | .nor => ∃ m, m < n ∧ I m e' t'
      | x => Q x e' t') e t) : @lwp call c env s ⟨Q⟩ := awp_loop I step h

/-! ### Numbers -/
theorem wrap_nat {n : Nat} (h : n < 4611686018427387904) : IntKind.i64.wrap (n : Int) = (n : Int) := by
  simp only [IntKind.wrap, IntKind.signed, IntKind.bits]
  simp
  omega
theorem wrap_add1 {n : Nat} (h : n < 4611686018427387903) : IntKind.i64.wrap ((n : Int) + 1) = ((n + 1 : Nat) : Int) := wrap_nat (n := n + 1) (by omega)
/-! ### Elements -/
def bid : AV → Nat
  | .sl id _ _ _ _ => id
  | _ => 0
def boff : AV → Nat
  | .sl _ off _ _ _ => off
  | _ => 0
theorem read_idx {α : Type} {C : Cod α} {v : AV} {l : List α} (h : read C s v = some l) {i : Nat} {x : α} (hi : l[i]? = some x) (k : IntKind) : iadV C.sz v (.int k (i : Int)) = some (.ptr (bid v) (boff v + i * C.sz)) := by
  have hlt := (List.getElem?_eq_some_iff.1 hi).1
  cases v with
  | nils => simp [read] at h; subst h; simp at hlt
  | sl id off n cap z =>
    obtain ⟨rfl, rfl, _⟩ := read_sl h
    exact iadV_nat hlt
  | _ => simp [read] at h
theorem read_lt {α : Type} {C : Cod α} {v : AV} {l : List α} (h : read C s v = some l) (hK : Keep s t) {i : Nat} {x : α} (hi : l[i]? = some x) : ltN (bid v) t := by
  have hlt := (List.getElem?_eq_some_iff.1 hi).1
  cases v with
  | nils => simp [read] at h; subst h; simp at hlt
  | sl id off n cap z =>
    obtain ⟨rfl, rfl, cs, own, hg, _⟩ := read_sl h
    exact St.get_lt (hK.blk hg)
  | _ => simp [read] at h
theorem lod_reserve {id : Nat} (h : ltN id s) (k n o : Nat) : lod (s.reserve k) n (.ptr id o) = lod s n (.ptr id o) := by
  unfold ltN at h
  simp only [lod, St.get_reserve, if_pos h]
theorem lod1_reserve {id : Nat} (h : ltN id s) (k o : Nat) : lod1 (s.reserve k) (.ptr id o) = lod1 s (.ptr id o) := by
  unfold ltN at h
  simp only [lod1, St.get_reserve, if_pos h]
/-! ### Contracts of functions of lists -/
end Go.AM
end
/-
  Contracts of functions that return a new list. Own work of this project.
-/
section
namespace Go.AM
open Go

variable {β : Type}
/-- The new list alone, or with one more result. -/
def mkR (e : Option AV) (v : AV) : AV := match e with
  | none => v
  | some e => .tup [v, e]
def conF (D : Cod β) (p : List AV → St → Option (List β × Option AV)) : Con := fun xs s => match p xs s with
  | some (l, e) => some (mkR e (freshV D s l), freshS D s l)
  | none => none
theorem conF_some {D : Cod β} {p : List AV → St → Option (List β × Option AV)} {xs : List AV} {s : St} {r : AV} {s' : St} (h : conF D p xs s = some (r, s')) : ∃ l e, p xs s = some (l, e) ∧ r = mkR e (freshV D s l) ∧ s' = freshS D s l := by
  unfold conF at h
  split at h
  · rename_i l e hp
    injection h with h
    obtain ⟨rfl, rfl⟩ := Prod.mk.inj h
    exact ⟨l, e, hp, rfl, rfl⟩
  · cases h
theorem mkR_ren {f : Nat → Nat} {e : Option AV} (he : ∀ x, e = some x → x.plain = true) (v : AV) : (mkR e v).ren f = mkR e (v.ren f) := by
  cases e with
  | none => rfl
  | some x => simp [mkR, AV.ren, AV.rens, plain_ren f (he x rfl)]
/-- Made by a function that was called: still the caller's own, seen from where the caller began. -/
theorem Own.from {D : Cod β} {s0 s t : St} {v : AV} {l : List β} (h : Own D s t v l) (hn : s0.next ≤ s.next) : Own D s0 t v l := by
  rcases h with ⟨rfl, rfl⟩ | ⟨j, rfl, h0, h1, h⟩
  · exact .inl ⟨rfl, rfl⟩
  · exact .inr ⟨j, rfl, h0, by omega, h⟩
theorem mkR_none (v : AV) : mkR none v = v := nrfl rfl
theorem mkR_some (e v : AV) : mkR (some e) v = .tup [v, e] := nrfl rfl

/-! ### Appending by value -/
variable {call : Nat → List AV → St → Option (AV × St)} {env : Env} {s t : St}
def appV (s : St) (sz bytes : Nat) (a x : AV) : Option (AV × St) := match shown s sz x, lenOf x with
  | some new, some k => aappend s sz bytes a new k
  | _, _ => none
theorem ae_app (sz b : Nat) (z : List AV) (a x : AO) : aeff call env s (.app sz b z a x) = appV s sz b (aev env a) (aev env x) := nrfl rfl
theorem appV_list {C : Cod β} {t : St} {v x : AV} {l m : List β} (hK : Keep s t) (hO : Own C s t v l) (hr : read C t x = some m) (bytes : Nat) (hb : (l.length + m.length) * bytes ≤ roomBytes) :
    ∃ v' t', appV t C.sz bytes v x = some (v', t') ∧ Keep s t' ∧ Own C s t' v' (l ++ m) := by
  simp only [appV, read_shown hr, read_len hr]
  exact append_own hK hO m bytes hb
/-- One value, laid into a row of its own before. -/
theorem appV_one {C : Cod β} {t : St} {v : AV} {l : List β} (hK : Keep s t) (hO : Own C s t v l) (x : β) (bytes : Nat) (hb : (l.length + 1) * bytes ≤ roomBytes) :
    ∃ v' t', appV (t.push (.row (C.enc x) true)) C.sz bytes v (.sl t.next 0 1 (some 1) C.sz) = some (v', t') ∧ Keep s t' ∧ Own C s t' v' (l ++ [x]) := by
  have hr : read C (t.push (.row (C.enc x) true)) (.sl t.next 0 1 (some 1) C.sz) = some [x] := by
    refine read_of rfl (St.get_push_new _ _) (by simp [C.len]) ?_
    rw [cells_one, List.drop_zero, Nat.one_mul, ← C.len x]
    simp
  exact appV_list (hK.push _) (hO.push _) hr bytes (by simpa using hb)
def slcV (sz : Nat) (x : AV) (lo hi : Option AV) : Option AV := match x with
  | .sl id off len cap z =>
    if z = sz then
      match cap with
      | some c => match optNat hi c len with
          | some h => match optNat lo h 0 with
            | some l => some (.sl id (off + l * sz) (h - l) (some (c - l)) sz)
            | none => none
          | none => none
      | none => match optNat hi len len with
          | some h => match optNat lo h 0 with
            | some l => some (.sl id (off + l * sz) (h - l) none sz)
            | none => none
          | none => none
    else none
  | .nils => match (some 0 : Option Nat), optNat hi 0 0, optNat lo 0 0 with
      | some _, some _, some _ => some .nils
      | _, _, _ => none
  | _ => none
theorem ap_slc (sz : Nat) (x : AO) (lo hi : Option AO) : apure env (.slc sz x lo hi none) = slcV sz (aev env x) (lo.map (aev env)) (hi.map (aev env)) := by
  simp only [apure, slcV]
  cases hx : aev env x with
  | sl id off len cap z =>
    cases cap <;> simp [optNat] <;> rfl
  | nils =>
    simp only [optNat, Option.map_none, Option.isSome_none, Bool.false_and, Bool.false_eq_true, if_false]
    rfl
  | _ => rfl
theorem asNatIn_nat {k : IntKind} {i : Int} {n m : Nat} (hi : i = (n : Int)) (h : n ≤ m) : asNatIn (.int k i) m = some n := by
  subst hi
  simp [asNatIn, h]
end Go.AM
end
/-
  A function's own code as its contract (run with as much fuel as it takes); what a call that changes memory leaves. Own work of this project.
-/
section
namespace Go.AM
open Go

variable {call : Nat → List AV → St → Option (AV × St)}

/-! ### More fuel changes nothing -/
theorem aexec_mono : ∀ {n m : Nat} {c : AC} {env : Env} {s : St} {r : AEx × Env × St}, n ≤ m → aexec call n c env s = some r → aexec call m c env s = some r
  | 0, _, _, _, _, _, _, h => by simp [aexec] at h
  | n + 1, 0, _, _, _, _, hm, _ => by omega
  | n + 1, m + 1, c, env, s, r, hm, h => by
    have hm' : n ≤ m := by omega
    cases c with
    | skip => exact h
    | exit i => exact h
    | ret => exact h
    | bad => exact h
    | reg os => exact h
    | regd k os => exact h
    | regw os chk => exact h
    | seq a b =>
      simp only [aexec] at h ⊢
      cases ha : aexec call n a env s with
      | none => rw [ha] at h; cases h
      | some r1 =>
        rw [ha] at h
        rw [aexec_mono hm' ha]
        obtain ⟨x, e1, s1⟩ := r1
        cases x with
        | nor => exact aexec_mono hm' h
        | exit i => exact h
        | ret => exact h
    | cond c a b =>
      simp only [aexec] at h ⊢
      split at h
      · exact aexec_mono hm' h
      · exact aexec_mono hm' h
      · cases h
    | block id c =>
      simp only [aexec] at h ⊢
      cases ha : aexec call n c env s with
      | none => rw [ha] at h; cases h
      | some r1 =>
        rw [ha] at h
        rw [aexec_mono hm' ha]
        exact h
    | loop c =>
      simp only [aexec] at h ⊢
      cases ha : aexec call n c env s with
      | none => rw [ha] at h; cases h
      | some r1 =>
        rw [ha] at h
        rw [aexec_mono hm' ha]
        obtain ⟨x, e1, s1⟩ := r1
        cases x with
        | nor => exact aexec_mono hm' h
        | exit i => exact h
        | ret => exact h
/-- No range over a map in it. -/
def noNxtC : AC → Bool
  | .reg os | .regd _ os | .regw os _ => noNxt os
  | .seq a b | .cond _ a b => noNxtC a && noNxtC b
  | .block _ c | .loop c => noNxtC c
  | _ => true
theorem awp_exec : ∀ (c : AC) {Q : AEx → Env → St → Prop} {env : Env} {s : St}, noNxtC c = true → awp call c Q env s → ∃ n x e t, aexec call n c env s = some (x, e, t) ∧ Q x e t
  | .skip, _, _, _, _, k => ⟨1, _, _, _, rfl, k⟩
  | .exit _, _, _, _, _, k => ⟨1, _, _, _, rfl, k⟩
  | .ret, _, _, _, _, k => ⟨1, _, _, _, rfl, k⟩
  | .bad, _, _, _, _, k => k.elim
  | .reg os, _, env, s, hn, k => by
    obtain ⟨e, t, h1, h2⟩ := awops_some os env s hn k
    exact ⟨1, _, _, _, by simp only [aexec, h1], h2⟩
  | .regd _ os, _, _, _, _, k => by
    obtain ⟨e, t, h1, h2⟩ := k
    exact ⟨1, _, _, _, by simp only [aexec, h1], h2⟩
  | .regw _ chk, _, _, _, _, k => by
    obtain ⟨e, t, h1, hc, h2⟩ := k
    exact ⟨1, _, _, _, by simp only [aexec, h1, if_pos hc], h2⟩
  | .seq a b, Q, env, s, hn, k => by
    simp only [noNxtC, Bool.and_eq_true] at hn
    obtain ⟨n, x, e, t, h1, h2⟩ := awp_exec a hn.1 k
    cases x with
    | nor =>
      obtain ⟨m, x', e', t', h3, h4⟩ := awp_exec b hn.2 h2
      refine ⟨max n m + 1, x', e', t', ?_, h4⟩
      simp only [aexec]
      rw [aexec_mono (Nat.le_max_left n m) h1]
      exact aexec_mono (Nat.le_max_right n m) h3
    | exit i => exact ⟨n + 1, _, _, _, by simp only [aexec, h1], h2⟩
    | ret => exact ⟨n + 1, _, _, _, by simp only [aexec, h1], h2⟩
  | .cond c a b, Q, env, s, hn, k => by
    simp only [noNxtC, Bool.and_eq_true] at hn
    simp only [awp] at k
    split at k
    · rename_i hc
      obtain ⟨n, x, e, t, h1, h2⟩ := awp_exec a hn.1 k
      exact ⟨n + 1, x, e, t, by simp only [aexec, hc, h1], h2⟩
    · rename_i hc
      obtain ⟨n, x, e, t, h1, h2⟩ := awp_exec b hn.2 k
      exact ⟨n + 1, x, e, t, by simp only [aexec, hc, h1], h2⟩
    · exact k.elim
  | .block id c, Q, env, s, hn, k => by
    obtain ⟨n, x, e, t, h1, h2⟩ := awp_exec c hn k
    cases x with
    | nor => exact ⟨n + 1, _, _, _, by simp only [aexec, h1], h2⟩
    | exit i =>
      simp only at h2
      split at h2
      · rename_i hi
        exact ⟨n + 1, _, _, _, by simp only [aexec, h1, if_pos hi], h2⟩
      · rename_i hi
        exact ⟨n + 1, _, _, _, by simp only [aexec, h1, if_neg hi], h2⟩
    | ret => exact ⟨n + 1, _, _, _, by simp only [aexec, h1], h2⟩
  | .loop c, Q, env, s, hn, k => by
    obtain ⟨r, k⟩ := k
    revert env s k
    induction r with
    | zero => exact fun env s k => k.elim
    | succ r ih =>
      intro env s k
      simp only [arounds] at k
      obtain ⟨n, x, e, t, h1, h2⟩ := awp_exec c hn k
      cases x with
      | nor =>
        obtain ⟨m, x', e', t', h3, h4⟩ := ih _ _ h2
        refine ⟨max n m + 1, x', e', t', ?_, h4⟩
        simp only [aexec]
        rw [aexec_mono (Nat.le_max_left n m) h1]
        exact aexec_mono (Nat.le_max_right n m) h3
      | exit i => exact ⟨n + 1, _, _, _, by simp only [aexec, h1], h2⟩
      | ret => exact ⟨n + 1, _, _, _, by simp only [aexec, h1], h2⟩

/-! ### The code as a contract -/
open Classical in
noncomputable def runFn (call : Nat → List AV → St → Option (AV × St)) (fn : AFn) : Con := fun args s =>
  if h : ∃ n r, acallFn call n fn args s = some r then some (Classical.choose (Classical.choose_spec h)) else none
theorem run_sound {P : Program} (hS : Sound P call) (hm : P.follows .mixedOrders = true) {f : Nat} {fn : Func} {afn : AFn} (hf : P.funcs[f]? = some fn) (hcal : callable P f = true) (hc : cfn P fn = some afn) : SoundAt P f (runFn call afn) := by
  intro args s r s' h
  unfold runFn at h
  split at h
  · rename_i hx
    injection h with h
    have := Classical.choose_spec (Classical.choose_spec hx)
    rw [h] at this
    exact fn_sound hS hm hf hcal hc _ args s r s' this
  · cases h
theorem acallFn_mono {fn : AFn} {n m : Nat} (h : n ≤ m) {args : List AV} {s : St} {r : AV × St} (k : acallFn call n fn args s = some r) : acallFn call m fn args s = some r := by
  unfold acallFn at k ⊢
  cases ha : aexec call n fn.body (args ++ List.replicate (fn.ntmps - args.length) .und) s with
  | none => rw [ha] at k; cases k
  | some q =>
    rw [ha] at k
    rw [aexec_mono h ha]
    exact k
theorem run_of {fn : AFn} {n : Nat} {args : List AV} {s : St} {r : AV × St} (k : acallFn call n fn args s = some r) : runFn call fn args s = some r := by
  have hx : ∃ n r, acallFn call n fn args s = some r := ⟨n, r, k⟩
  unfold runFn
  rw [dif_pos hx]
  have := Classical.choose_spec (Classical.choose_spec hx)
  have h1 := acallFn_mono (Nat.le_max_left n (Classical.choose hx)) k
  have h2 := acallFn_mono (Nat.le_max_right n (Classical.choose hx)) this
  rw [h1] at h2
  exact h2.symm ▸ rfl
theorem run_awp {fn : AFn} (hn : noNxtC fn.body = true) {args : List AV} (hl : args.length ≤ fn.ntmps) {s : St} {Q : AV → St → Prop}
    (h : ∀ env : Env, elen env = fn.ntmps → (∀ i v, args[i]? = some v → E env i = v) → awp call fn.body (fun x e t => (∀ i, x ≠ .exit i) ∧ ∃ r, aresults e t fn.results = some r ∧ Q r t) env s) :
    ∃ r t, runFn call fn args s = some (r, t) ∧ Q r t := by
  have h := start_env hl h
  obtain ⟨n, x, e, t, h1, hx, r, h2, h3⟩ := awp_exec fn.body hn h
  refine ⟨r, t, run_of (n := n) ?_, h3⟩
  unfold acallFn
  rw [h1]
  cases x with
  | nor => simp only [h2, Option.map_some]
  | exit i => exact absurd rfl (hx i)
  | ret => simp only [h2, Option.map_some]

/-! ### What a call changes -/
/-- Only the blocks of M, and what is new. -/
structure Chg (M : List Nat) (s t : St) : Prop where
  next : s.next ≤ t.next
  get : ∀ id, id < s.next → id ∉ M → t.get id = s.get id
  low : ∀ k, k ≤ s.low → k ≤ s.next → (∀ id ∈ M, k ≤ id) → k ≤ t.low
theorem Chg.refl (M : List Nat) (s : St) : Chg M s s := ⟨Nat.le_refl _, fun _ _ _ => rfl, fun _ h _ _ => h⟩
theorem Keep.chg {s t : St} (h : Keep s t) (M : List Nat) : Chg M s t := ⟨h.next, fun id h1 _ => h.get id h1, fun k h1 h2 _ => by have := h.low; omega⟩
theorem Chg.keep {s t : St} (h : Chg [] s t) : Keep s t := ⟨h.next, fun id h1 => h.get id h1 (by simp), h.low _ (Nat.min_le_left _ _) (Nat.min_le_right _ _) (by simp)⟩
theorem Chg.trans {M M' : List Nat} {a b c : St} (h : Chg M a b) (k : Chg M' b c) (hM : ∀ id ∈ M', id ∈ M ∨ a.next ≤ id) : Chg M a c := by
  refine ⟨Nat.le_trans h.next k.next, fun id h1 h2 => ?_, fun n h1 h2 h3 => ?_⟩
  · rw [k.get id (Nat.lt_of_lt_of_le h1 h.next) fun hm => ?_, h.get id h1 h2]
    rcases hM id hm with q | q
    · exact h2 q
    · omega
  · refine k.low n (h.low n h1 h2 h3) (Nat.le_trans h2 h.next) fun id hid => ?_
    rcases hM id hid with q | q
    · exact h3 id q
    · omega
theorem Chg.mono {M M' : List Nat} {s t : St} (h : Chg M s t) (hM : ∀ id ∈ M, id ∈ M') : Chg M' s t :=
  ⟨h.next, fun id h1 h2 => h.get id h1 fun q => h2 (hM id q), fun k h1 h2 h3 => h.low k h1 h2 fun id q => h3 id (hM id q)⟩
theorem Chg.push {M : List Nat} {s t : St} (h : Chg M s t) (b : AB) : Chg M s (t.push b) :=
  h.trans (M' := []) (((Keep.refl t).push b).chg []) (by simp)
theorem Chg.put {M : List Nat} {s t : St} (h : Chg M s t) {id : Nat} (b : AB) (hid : id ∈ M ∨ s.next ≤ id) (hlt : id < t.next) : Chg M s (t.put id b) := by
  refine ⟨by simpa using h.next, fun j h1 h2 => ?_, fun k h1 h2 h3 => ?_⟩
  · rw [St.get_put_ne _ _ hlt fun e => ?_, h.get j h1 h2]
    subst e
    rcases hid with q | q
    · exact h2 q
    · omega
  · have := h.low k h1 h2 h3
    have : k ≤ id := by
      rcases hid with q | q
      · exact h3 id q
      · omega
    simp
    omega
/-- What was made in the meantime may be changed. -/
theorem Chg.new {M M' : List Nat} {a s t : St} (h : Chg M a s) (k : Chg M' s t) (hM : ∀ id ∈ M', a.next ≤ id ∨ id ∈ M) : Chg M a t := h.trans k fun id q => (hM id q).symm
theorem Keep.chgn {M' : List Nat} {a s t : St} (h : Keep a s) (k : Chg M' s t) (hM : ∀ id ∈ M', a.next ≤ id) : Keep a t :=
  ((h.chg []).trans k fun id q => .inr (hM id q)).keep
theorem Chg.blk {M : List Nat} {s t : St} (h : Chg M s t) {id : Nat} {b : AB} (hb : s.get id = some b) (hm : id ∉ M) : t.get id = some b := by rw [h.get id (St.get_lt hb) hm, hb]
@[reducible] def lowd (s : St) : St := { heap := s.heap, next := s.next, low := s.next }
/-- The call answers what names no block, and has changed nothing. -/
theorem acall_same {c : Con} {cl : Bool} {args : List AV} {s t : St} {r : AV} (h : c args (lowd s) = some (r, t)) (hk : Keep (lowd s) t) (hg : r.ground = true) : acall c cl args s = some (r, s) := by
  have hl := hk.low
  have hl : s.next ≤ t.low := by
    have : min s.next s.next ≤ t.low := hl
    omega
  simp only [acall]
  rw [show ({ heap := s.heap, next := s.next, low := s.next } : St) = lowd s from rfl, h]
  simp [hg, hl]
theorem acall_new {c : Con} {args : List AV} {M : List Nat} {s t : St} {r : AV} (h : c args (lowd s) = some (r, t)) (hk : Chg M (lowd s) t) (hng : r.ground = false ∨ t.low < s.next) :
    ∃ t', acall c false args s = some (r, t') ∧ (∀ id, t'.get id = t.get id) ∧ t'.next = t.next ∧ Chg M s t' := by
  refine ⟨{ heap := t.heap, next := t.next, low := min s.low t.low }, ?_, fun _ => rfl, rfl, hk.next, hk.get, fun k h1 h2 h3 => ?_⟩
  · simp only [acall]
    rw [show ({ heap := s.heap, next := s.next, low := s.next } : St) = lowd s from rfl, h]
    simp only
    rw [if_neg]
    · simp
    · simp only [Bool.and_eq_true, decide_eq_true_eq]
      rintro ⟨h1, h2⟩
      rcases hng with q | q
      · rw [h1] at q; cases q
      · omega
  · have := hk.low k h2 h2 h3
    show k ≤ min s.low t.low
    omega
theorem run_same {fn : AFn} (hn : noNxtC fn.body = true) {args : List AV} (hl : args.length ≤ fn.ntmps) {cl : Bool} {s : St} {r : AV} (hg : r.ground = true)
    (h : ∀ env : Env, elen env = fn.ntmps → (∀ i v, args[i]? = some v → E env i = v) → awp call fn.body (fun x e t => (∀ i, x ≠ .exit i) ∧ aresults e t fn.results = some r ∧ Keep (lowd s) t) env (lowd s)) :
    acall (runFn call fn) cl args s = some (r, s) := by
  obtain ⟨r', t, h1, h2, h3⟩ := run_awp hn hl (Q := fun r' t => r' = r ∧ Keep (lowd s) t) fun env h1 h2 => awp_mono _ (fun x e t q => ⟨q.1, r, q.2.1, rfl, q.2.2⟩) (h env h1 h2)
  subst h2
  exact acall_same h1 h3 hg
/-- The answer names a block, or something was changed. -/
theorem run_new {fn : AFn} (hn : noNxtC fn.body = true) {args : List AV} (hl : args.length ≤ fn.ntmps) {s : St} {M : List Nat} {Q : AV → St → Prop} (hQ : ∀ r t t', (∀ id, t'.get id = t.get id) → t'.next = t.next → Q r t → Q r t')
    (h : ∀ env : Env, elen env = fn.ntmps → (∀ i v, args[i]? = some v → E env i = v) → awp call fn.body (fun x e t => (∀ i, x ≠ .exit i) ∧ ∃ r, aresults e t fn.results = some r ∧ Q r t ∧ Chg M (lowd s) t ∧ (r.ground = false ∨ t.low < s.next)) env (lowd s)) :
    ∃ r t, acall (runFn call fn) false args s = some (r, t) ∧ Q r t ∧ Chg M s t := by
  obtain ⟨r, t, h1, h2, h3, h4⟩ := run_awp hn hl h
  obtain ⟨t', g1, g2, g3, g4⟩ := acall_new h1 h3 h4
  exact ⟨r, t', g1, hQ r t t' g2 g3 h2, g4⟩

/-! ### A call that answers with new memory, in a region that draws its order -/
def acallF (c : Con) (args : List AV) (s : St) : Option (AV × St) := match acall c false args (lowd s) with
  | some (v, t) => if s.next ≤ t.low then some (v, { heap := t.heap, next := t.next, low := min s.low t.low }) else none
  | none => none
variable {base : Nat} {d : Option Nat} {r : Option Nat} {rest : List AOper} {Q : Env → St → Prop} {env : Env} {s : St}
theorem st_callf (f : Nat) (l : List AO) : awops call base (⟨d, .call f false l, none, r, true⟩ :: rest) Q env s = estep (acallF (call f) (l.map (aev env)) s) fun v t => awops call base rest Q (pE env d v) t := by
  rw [st_efff (op := .call f false l) (by simp) rfl rfl rfl]
  simp only [aeff, acallF, AOper.floor, AOper.stores, AOp.isApp, AOp.isStore, Bool.false_and, Bool.or_false, Bool.false_eq_true, if_false]
  cases acall (call f) false (l.map (aev env)) (lowd s) with
  | none => rfl
  | some q =>
    obtain ⟨v, t⟩ := q
    simp only [estep]
    by_cases h : s.next ≤ t.low
    · rw [if_pos h, if_pos h]
    · rw [if_neg h, if_neg h]
end Go.AM
end
/-
  The functions of this seat as the abstract machine runs them. Printed by a program of this project.
-/
section
set_option maxRecDepth 100000
namespace Go.AM
open Go

/- redpencil/redpencillaw08.OmapIterates -/
def a3 : AFn := ⟨143, [.cell1 8],
  .seq (.reg [oO 7 (.box 1 (.t 3)),
 oO 8 (.alloc [(.bool false)])])
 (.seq (.seq (.reg [oO 19 (.mv (.t 1)),
 oO 20 (.call 8 false [(.t 19)]),
 oO 21 (.un .not (.t 20)),
 oO 22 (.mv (.t 21)),
 oG 23 (.mv (.t 2)) 22 false,
 oG 24 (.bin .gtr .no (.t 23) (.c (.int .i64 4611686018427387904))) 22 false,
 oO 25 (.pick (.t 22) (.c (.bool true)) (.t 24)),
 oO 26 (.mv (.t 25)),
 oG 27 (.mv (.t 2)) 26 false,
 oG 28 (.bin .lss .no (.t 27) (.c (.int .i64 (-4611686018427387904)))) 26 false,
 oO 29 (.pick (.t 26) (.c (.bool true)) (.t 28))])
 (.cond (.t 29) (.seq (.reg [oO 30 (.call 9 false []),
 ⟨none, .store 1 (.t 8) (.t 30), none, none, false⟩])
 (.ret))
 (.skip)))
 (.seq (.reg [oO 31 (.mv (.t 0)),
 oO 32 (.call 10 false [(.t 31)]),
 oO 33 (.mv (.t 0)),
 oO 34 (.build [(.bool false), .nils] [(0, 1, (.t 33))]),
 oO 9 (.alloc [.nilp]),
 oO 10 (.alloc [(.bool false), .nils]),
 ⟨none, .store 1 (.t 9) (.t 32), none, none, false⟩,
 ⟨none, .store 2 (.t 10) (.t 34), none, none, false⟩])
 (.seq (.seq (.reg [oO 35 (.load1 (.t 9)),
 oO 36 (.bin .eql .np (.t 35) (.c .nilp))])
 (.cond (.t 36) (.seq (.reg [⟨none, .store 1 (.t 8) (.c (.bool false)), none, none, false⟩])
 (.ret))
 (.skip)))
 (.seq (.seq (.reg [oO 37 (.mv (.t 1)),
 oO 38 (.len .sl (.t 37)),
 oO 39 (.mv (.c (.int .i64 0)))])
 (.block 0 (.loop (.seq (.reg [oO 40 (.bin .lss .no (.t 39) (.t 38))])
 (.seq (.cond (.t 40) (.skip)
 (.exit 0))
 (.seq (.block 1 (.seq (.reg [oO 41 (.iad 3 (.t 37) (.t 39)),
 oO 42 (.loadn 3 (.t 41)),
 oO 12 (.alloc [(.int .i64 0), (.int .i64 0), (.str ⟨#[]⟩)]),
 ⟨none, .store 3 (.t 12) (.t 42), none, none, false⟩])
 (.seq (.reg [oO 43 (.load1 (.t 9)),
 oO 44 (.fad 1 (.t 12)),
 oO 45 (.load1 (.t 44)),
 oO 46 (.fad 2 (.t 12)),
 oO 47 (.load1 (.t 46)),
 oO 48 (.call 11 false [(.t 43), (.t 45), (.t 47)])])
 (.reg [oO 49 (.loadn 2 (.t 10)),
 oO 50 (.fad 1 (.t 12)),
 oO 51 (.load1 (.t 50)),
 oO 52 (.fad 2 (.t 12)),
 oO 53 (.load1 (.t 52)),
 oO 54 (.call 12 false [(.t 49), (.t 51), (.t 53)]),
 ⟨none, .store 2 (.t 10) (.t 54), none, none, false⟩]))))
 (.reg [oO 55 (.bin .add .no (.t 39) (.c (.int .i64 1))),
 oO 39 (.mv (.t 55))])))))))
 (.seq (.regd 0 [oO 56 (.load1 (.t 9)),
 ⟨(some 57), .call 13 false [(.t 56)], none, none, true⟩,
 oO 58 (.load1 (.t 9)),
 oO 59 (.mv (.t 2)),
 oO 60 (.call 14 false [(.t 58), (.t 59)]),
 oO 13 (.mv (.t 57)),
 oO 14 (.mv (.t 60))])
 (.seq (.reg [oO 61 (.load1 (.t 7)),
 oO 62 (.conv .i64 (.t 61)),
 oO 63 (.fad 1 (.t 10)),
 oO 64 (.load1 (.t 63)),
 oO 65 (.len .sl (.t 64)),
 oO 66 (.mm false [(.t 62), (.t 65)]),
 oO 15 (.mv (.t 66))])
 (.seq (.seq (.regd 0 [oO 67 (.mv (.t 13)),
 oO 68 (.bin .eql .nf (.t 67) (.c .nilf)),
 oO 69 (.mv (.t 68)),
 oG 70 (.mv (.t 14)) 69 false,
 oG 71 (.bin .eql .nf (.t 70) (.c .nilf)) 69 false,
 oO 72 (.pick (.t 69) (.c (.bool true)) (.t 71)),
 oO 73 (.mv (.t 72)),
 oG 74 (.mv (.t 15)) 73 false,
 oG 75 (.bin .gtr .no (.t 74) (.c (.int .i64 0))) 73 false,
 oG 76 (.mv (.t 75)) 73 false,
 oG 77 (.mv (.t 13)) 76 true,
 oG 78 (.mv (.t 15)) 76 true,
 ⟨(some 79), .call 16 false [(.t 77), (.t 78)], (some (76, true)), none, true⟩,
 oG 80 (.fad 1 (.t 10)) 76 true,
 oG 81 (.load1 (.t 80)) 76 true,
 oG 82 (.mv (.t 15)) 76 true,
 oG 83 (.slc 2 (.t 81) none (some (.t 82)) none) 76 true,
 oG 84 (.call 15 false [(.t 79), (.t 83)]) 76 true,
 oG 85 (.un .not (.t 84)) 76 true,
 oG 86 (.pick (.t 76) (.t 85) (.c (.bool false))) 73 false,
 oO 87 (.pick (.t 73) (.c (.bool true)) (.t 86))])
 (.cond (.t 87) (.seq (.reg [⟨none, .store 1 (.t 8) (.c (.bool false)), none, none, false⟩])
 (.ret))
 (.skip)))
 (.seq (.reg [oO 16 (.alloc [.nils])])
 (.seq (.seq (.reg [oO 88 (.mv (.t 13))])
 (.block 2 (.bad)))
 (.seq (.regd 0 [oO 121 (.load1 (.t 16)),
 oO 122 (.fad 1 (.t 10)),
 oO 123 (.load1 (.t 122)),
 oO 124 (.call 15 false [(.t 121), (.t 123)]),
 oO 125 (.mv (.t 124)),
 oG 126 (.mv (.t 13)) 125 true,
 ⟨(some 127), .call 16 false [(.t 126), (.c (.int .i64 100))], (some (125, true)), none, true⟩,
 oG 128 (.fad 1 (.t 10)) 125 true,
 oG 129 (.load1 (.t 128)) 125 true,
 oG 130 (.call 15 false [(.t 127), (.t 129)]) 125 true,
 oO 131 (.pick (.t 125) (.t 130) (.c (.bool false))),
 oO 132 (.mv (.t 131)),
 oG 133 (.mv (.t 14)) 132 true,
 ⟨(some 134), .call 16 false [(.t 133), (.c (.int .i64 100))], (some (132, true)), none, true⟩,
 oG 135 (.loadn 2 (.t 10)) 132 true,
 oG 136 (.mv (.t 2)) 132 true,
 oG 137 (.call 18 false [(.t 135), (.t 136)]) 132 true,
 oG 138 (.call 15 false [(.t 134), (.t 137)]) 132 true,
 oO 139 (.pick (.t 132) (.t 138) (.c (.bool false))),
 oO 140 (.mv (.t 139)),
 oG 141 (.call 9 false []) 140 true,
 oO 142 (.pick (.t 140) (.t 141) (.c (.bool false))),
 ⟨none, .store 1 (.t 8) (.t 142), none, none, false⟩])
 (.ret)))))))))))⟩

/- redpencil/redpencillaw08.OmapStrings -/
def a4 : AFn := ⟨117, [.cell1 2],
  .seq (.reg [oO 2 (.alloc [(.bool false)])])
 (.seq (.seq (.reg [oO 14 (.mv (.t 0)),
 oO 15 (.len .sl (.t 14)),
 oO 16 (.bin .gtr .no (.t 15) (.c (.int .i64 40)))])
 (.cond (.t 16) (.seq (.reg [oO 17 (.call 9 false []),
 ⟨none, .store 1 (.t 2) (.t 17), none, none, false⟩])
 (.ret))
 (.skip)))
 (.seq (.reg [oO 18 (.call 19 false [(.f 20)]),
 oO 3 (.mv (.t 18))])
 (.seq (.seq (.reg [oO 19 (.mv (.t 3)),
 oO 20 (.bin .eql .np (.t 19) (.c .nilp))])
 (.cond (.t 20) (.seq (.reg [⟨none, .store 1 (.t 2) (.c (.bool false)), none, none, false⟩])
 (.ret))
 (.skip)))
 (.seq (.reg [oO 21 (.mkmap none),
 oO 4 (.alloc [.nilm]),
 ⟨none, .store 1 (.t 4) (.t 21), none, none, false⟩])
 (.seq (.reg [oO 22 (.mkmap none),
 oO 5 (.alloc [.nilm]),
 ⟨none, .store 1 (.t 5) (.t 22), none, none, false⟩])
 (.seq (.seq (.reg [oO 23 (.mv (.t 0)),
 oO 24 (.len .sl (.t 23)),
 oO 25 (.mv (.c (.int .i64 0)))])
 (.block 0 (.loop (.seq (.reg [oO 26 (.bin .lss .no (.t 25) (.t 24))])
 (.seq (.cond (.t 26) (.skip)
 (.exit 0))
 (.seq (.block 1 (.seq (.reg [oO 27 (.mv (.t 25)),
 oO 28 (.iad 1 (.t 23) (.t 25)),
 oO 29 (.load1 (.t 28)),
 oO 6 (.mv (.t 27)),
 oO 7 (.mv (.t 29))])
 (.seq (.seq (.reg [oO 30 (.mv (.t 7)),
 oO 31 (.len .st (.t 30)),
 oO 32 (.bin .gtr .no (.t 31) (.c (.int .i64 100)))])
 (.cond (.t 32) (.seq (.reg [oO 33 (.call 9 false []),
 ⟨none, .store 1 (.t 2) (.t 33), none, none, false⟩])
 (.ret))
 (.skip)))
 (.seq (.reg [oO 35 (.mv (.t 3)),
 oO 36 (.mv (.t 7)),
 oO 37 (.call 21 false [(.t 35), (.t 36)]),
 oO 34 (.mv (.t 37)),
 oO 38 (.ext (.t 34) 0),
 oO 39 (.ext (.t 34) 1),
 oO 8 (.mv (.t 38)),
 oO 9 (.mv (.t 39))])
 (.seq (.seq (.reg [oO 40 (.mv (.t 9)),
 oO 41 (.load1 (.t 5)),
 oO 42 (.mv (.t 7)),
 oO 43 (.len .st (.t 42)),
 oO 44 (.look (.int .i64 0) (.ky .i) false (.t 41) (.t 43)),
 oO 45 (.bin .gtr .no (.t 44) (.c (.int .i64 0))),
 oO 46 (.bin .neq .bo (.t 40) (.t 45)),
 oO 47 (.mv (.t 46)),
 oG 48 (.mv (.t 8)) 47 false,
 oG 49 (.len .sl (.t 48)) 47 false,
 oG 50 (.load1 (.t 5)) 47 false,
 oG 51 (.mv (.t 7)) 47 false,
 oG 52 (.len .st (.t 51)) 47 false,
 oG 53 (.look (.int .i64 0) (.ky .i) false (.t 50) (.t 52)) 47 false,
 oG 54 (.bin .neq .no (.t 49) (.t 53)) 47 false,
 oO 55 (.pick (.t 47) (.c (.bool true)) (.t 54))])
 (.cond (.t 55) (.seq (.reg [⟨none, .store 1 (.t 2) (.c (.bool false)), none, none, false⟩])
 (.ret))
 (.skip)))
 (.seq (.reg [oO 56 (.mv (.t 3)),
 oO 57 (.mv (.t 7)),
 oO 58 (.mv (.t 8)),
 oO 59 (.app 1 8 [(.int .i64 0)] (.c .nils) (.t 58)),
 oO 60 (.mv (.t 6)),
 oO 61 (.bsl [(.int .i64 0)] 1 1 [(0, (.t 60))]),
 oO 62 (.app 1 8 [(.int .i64 0)] (.t 59) (.t 61)),
 oO 63 (.call 22 false [(.t 56), (.t 57), (.t 62)])])
 (.seq (.seq (.reg [oO 64 (.load1 (.t 5)),
 oO 65 (.mv (.t 7)),
 oO 66 (.len .st (.t 65)),
 oO 67 (.look (.int .i64 0) (.ky .i) false (.t 64) (.t 66)),
 oO 68 (.bin .eql .no (.t 67) (.c (.int .i64 0)))])
 (.cond (.t 68) (.reg [oO 69 (.load1 (.t 4)),
 oO 70 (.mv (.t 7)),
 oO 71 (.len .st (.t 70)),
 oO 72 (.mv (.t 7)),
 ⟨none, .mset (.ky .i) (.t 69) (.t 71) (.t 72), none, none, false⟩])
 (.skip)))
 (.reg [oO 73 (.load1 (.t 5)),
 oO 74 (.mv (.t 7)),
 oO 75 (.len .st (.t 74)),
 oO 76 (.look (.int .i64 0) (.ky .i) false (.t 73) (.t 75)),
 oO 77 (.bin .add .no (.t 76) (.c (.int .i64 1))),
 ⟨none, .mset (.ky .i) (.t 73) (.t 75) (.t 77), none, none, false⟩]))))))))
 (.reg [oO 78 (.bin .add .no (.t 25) (.c (.int .i64 1))),
 oO 25 (.mv (.t 78))])))))))
 (.seq (.reg [oO 10 (.alloc [(.int .i64 0)]),
 ⟨none, .store 1 (.t 10) (.c (.int .i64 (-1))), none, none, false⟩])
 (.seq (.reg [oO 79 (.mv (.t 3)),
 oO 80 (.call 23 false [(.t 79)]),
 oO 11 (.mv (.t 80))])
 (.seq (.seq (.reg [oO 81 (.mv (.t 11)),
 oO 82 (.bin .eql .nf (.t 81) (.c .nilf))])
 (.cond (.t 82) (.seq (.reg [⟨none, .store 1 (.t 2) (.c (.bool false)), none, none, false⟩])
 (.ret))
 (.skip)))
 (.seq (.seq (.reg [oO 83 (.mv (.t 11))])
 (.block 2 (.bad)))
 (.seq (.regw [oO 109 (.mv (.t 3)),
 oO 110 (.call 24 false [(.t 109)]),
 oO 111 (.load1 (.t 5)),
 oO 112 (.len .mp (.t 111)),
 oO 113 (.bin .eql .no (.t 110) (.t 112)),
 oO 114 (.mv (.t 113)),
 oG 115 (.call 9 false []) 114 true,
 oO 116 (.pick (.t 114) (.t 115) (.c (.bool false))),
 ⟨none, .store 1 (.t 2) (.t 116), none, none, false⟩] [(111, 5)])
 (.ret))))))))))))⟩

/- redpencil/redpencillaw08.OmapHolds -/
def a5 : AFn := ⟨151, [.t 6],
  .seq (.reg [oO 6 (.mv (.c (.bool false)))])
 (.seq (.seq (.reg [oO 16 (.mv (.t 1)),
 oO 17 (.call 8 false [(.t 16)]),
 oO 18 (.un .not (.t 17))])
 (.cond (.t 18) (.seq (.reg [oO 19 (.call 9 false []),
 oO 6 (.mv (.t 19))])
 (.ret))
 (.skip)))
 (.seq (.reg [oO 20 (.mv (.t 0)),
 oO 21 (.call 10 false [(.t 20)]),
 oO 22 (.mv (.t 0)),
 oO 23 (.call 10 false [(.t 22)]),
 oO 7 (.mv (.t 21)),
 oO 8 (.mv (.t 23))])
 (.seq (.seq (.reg [oO 24 (.mv (.t 7)),
 oO 25 (.bin .eql .np (.t 24) (.c .nilp)),
 oO 26 (.mv (.t 25)),
 oG 27 (.mv (.t 8)) 26 false,
 oG 28 (.bin .eql .np (.t 27) (.c .nilp)) 26 false,
 oO 29 (.pick (.t 26) (.c (.bool true)) (.t 28))])
 (.cond (.t 29) (.seq (.reg [oO 6 (.mv (.c (.bool false)))])
 (.ret))
 (.skip)))
 (.seq (.seq (.reg [oO 30 (.mv (.t 1)),
 oO 31 (.len .sl (.t 30)),
 oO 32 (.mv (.c (.int .i64 0)))])
 (.block 0 (.loop (.seq (.reg [oO 33 (.bin .lss .no (.t 32) (.t 31))])
 (.seq (.cond (.t 33) (.skip)
 (.exit 0))
 (.seq (.block 1 (.seq (.reg [oO 34 (.iad 3 (.t 30) (.t 32)),
 oO 35 (.loadn 3 (.t 34)),
 oO 10 (.alloc [(.int .i64 0), (.int .i64 0), (.str ⟨#[]⟩)]),
 ⟨none, .store 3 (.t 10) (.t 35), none, none, false⟩])
 (.seq (.reg [oO 36 (.fad 0 (.t 10)),
 oO 37 (.load1 (.t 36)),
 oO 38 (.bin .eql .no (.t 37) (.c (.int .i64 1)))])
 (.cond (.t 38) (.reg [oO 39 (.mv (.t 7)),
 oO 40 (.fad 1 (.t 10)),
 oO 41 (.load1 (.t 40)),
 oO 42 (.call 17 false [(.t 39), (.t 41)])])
 (.reg [oO 43 (.mv (.t 7)),
 oO 44 (.fad 1 (.t 10)),
 oO 45 (.load1 (.t 44)),
 oO 46 (.fad 2 (.t 10)),
 oO 47 (.load1 (.t 46)),
 oO 48 (.call 11 false [(.t 43), (.t 45), (.t 47)])])))))
 (.reg [oO 49 (.bin .add .no (.t 32) (.c (.int .i64 1))),
 oO 32 (.mv (.t 49))])))))))
 (.seq (.reg [oO 50 (.mv (.t 7)),
 oO 51 (.call 13 false [(.t 50)]),
 oO 52 (.call 16 false [(.t 51), (.c (.int .i64 100))]),
 oO 11 (.mv (.t 52))])
 (.seq (.seq (.reg [oO 53 (.mv (.t 11)),
 oO 54 (.len .sl (.t 53)),
 oO 55 (.mv (.t 7)),
 oO 56 (.call 25 false [(.t 55)]),
 oO 57 (.bin .neq .no (.t 54) (.t 56))])
 (.cond (.t 57) (.seq (.reg [oO 6 (.mv (.c (.bool false)))])
 (.ret))
 (.skip)))
 (.seq (.seq (.reg [oO 58 (.mv (.t 11)),
 oO 59 (.len .sl (.t 58)),
 oO 60 (.mv (.c (.int .i64 0)))])
 (.block 2 (.loop (.seq (.reg [oO 61 (.bin .lss .no (.t 60) (.t 59))])
 (.seq (.cond (.t 61) (.skip)
 (.exit 2))
 (.seq (.block 3 (.seq (.reg [oO 62 (.mv (.t 60)),
 oO 63 (.iad 2 (.t 58) (.t 60)),
 oO 64 (.loadn 2 (.t 63)),
 oO 13 (.alloc [(.int .i64 0), (.str ⟨#[]⟩)]),
 oO 12 (.mv (.t 62)),
 ⟨none, .store 2 (.t 13) (.t 64), none, none, false⟩])
 (.seq (.regd 0 [oO 65 (.mv (.t 12)),
 oO 66 (.bin .gtr .no (.t 65) (.c (.int .i64 0))),
 oO 67 (.mv (.t 66)),
 oG 68 (.mv (.t 0)) 67 true,
 oG 69 (.mv (.t 68)) 67 true,
 oG 70 (.mv (.t 11)) 69 true,
 oG 71 (.mv (.t 12)) 69 true,
 oG 72 (.bin .sub .no (.t 71) (.c (.int .i64 1))) 69 true,
 oG 73 (.iad 2 (.t 70) (.t 72)) 69 true,
 oG 74 (.fad 0 (.t 73)) 69 true,
 oG 75 (.load1 (.t 74)) 69 true,
 oG 76 (.fad 0 (.t 13)) 69 true,
 oG 77 (.load1 (.t 76)) 69 true,
 oG 78 (.bin .leq .no (.t 75) (.t 77)) 69 true,
 oG 79 (.pick (.t 69) (.t 78) (.c (.bool false))) 67 true,
 oG 80 (.mv (.t 79)) 67 true,
 oG 81 (.mv (.t 0)) 80 false,
 oG 82 (.un .not (.t 81)) 80 false,
 oG 83 (.mv (.t 82)) 80 false,
 oG 84 (.mv (.t 11)) 83 true,
 oG 85 (.mv (.t 12)) 83 true,
 oG 86 (.bin .sub .no (.t 85) (.c (.int .i64 1))) 83 true,
 oG 87 (.iad 2 (.t 84) (.t 86)) 83 true,
 oG 88 (.fad 0 (.t 87)) 83 true,
 oG 89 (.load1 (.t 88)) 83 true,
 oG 90 (.fad 0 (.t 13)) 83 true,
 oG 91 (.load1 (.t 90)) 83 true,
 oG 92 (.bin .geq .no (.t 89) (.t 91)) 83 true,
 oG 93 (.pick (.t 83) (.t 92) (.c (.bool false))) 80 false,
 oG 94 (.pick (.t 80) (.c (.bool true)) (.t 93)) 67 true,
 oO 95 (.pick (.t 67) (.t 94) (.c (.bool false))),
 oO 96 (.mv (.t 95)),
 oG 97 (.mv (.t 7)) 96 false,
 oG 98 (.fad 0 (.t 13)) 96 false,
 oG 99 (.load1 (.t 98)) 96 false,
 oG 100 (.call 26 false [(.t 97), (.t 99)]) 96 false,
 oG 101 (.mv (.t 12)) 96 false,
 oG 102 (.bin .neq .no (.t 100) (.t 101)) 96 false,
 oO 103 (.pick (.t 96) (.c (.bool true)) (.t 102)),
 oO 104 (.mv (.t 103)),
 oG 105 (.mv (.t 7)) 104 false,
 oG 106 (.mv (.t 12)) 104 false,
 oG 107 (.loadn 2 (.t 13)) 104 false,
 oG 108 (.call 27 false [(.t 105), (.t 106), (.t 107), (.c (.bool true))]) 104 false,
 oG 109 (.un .not (.t 108)) 104 false,
 oO 110 (.pick (.t 104) (.c (.bool true)) (.t 109)),
 oO 111 (.mv (.t 110)),
 oG 112 (.mv (.t 7)) 111 false,
 oG 113 (.fad 0 (.t 13)) 111 false,
 oG 114 (.load1 (.t 113)) 111 false,
 oG 115 (.fad 1 (.t 13)) 111 false,
 oG 116 (.load1 (.t 115)) 111 false,
 oG 117 (.call 28 false [(.t 112), (.t 114), (.t 116), (.c (.bool true))]) 111 false,
 oG 118 (.un .not (.t 117)) 111 false,
 oO 119 (.pick (.t 111) (.c (.bool true)) (.t 118))])
 (.cond (.t 119) (.seq (.reg [oO 6 (.mv (.c (.bool false)))])
 (.ret))
 (.skip)))))
 (.reg [oO 120 (.bin .add .no (.t 60) (.c (.int .i64 1))),
 oO 60 (.mv (.t 120))])))))))
 (.seq (.seq (.reg [oO 121 (.mv (.t 11)),
 oO 122 (.len .sl (.t 121)),
 oO 123 (.mv (.c (.int .i64 0)))])
 (.block 4 (.loop (.seq (.reg [oO 124 (.bin .lss .no (.t 123) (.t 122))])
 (.seq (.cond (.t 124) (.skip)
 (.exit 4))
 (.seq (.block 5 (.seq (.reg [oO 125 (.mv (.t 123)),
 oO 14 (.mv (.t 125))])
 (.seq (.reg [oO 126 (.mv (.t 11)),
 oO 127 (.mv (.t 14)),
 oO 128 (.mv (.t 2)),
 oO 129 (.conv .i64 (.t 128)),
 oO 130 (.bin .add .no (.t 127) (.t 129)),
 oO 131 (.mv (.t 11)),
 oO 132 (.len .sl (.t 131)),
 oO 133 (.bin .rem .no (.t 130) (.t 132)),
 oO 134 (.iad 2 (.t 126) (.t 133)),
 oO 135 (.loadn 2 (.t 134)),
 oO 15 (.alloc [(.int .i64 0), (.str ⟨#[]⟩)]),
 ⟨none, .store 2 (.t 15) (.t 135), none, none, false⟩])
 (.reg [oO 136 (.mv (.t 8)),
 oO 137 (.fad 0 (.t 15)),
 oO 138 (.load1 (.t 137)),
 oO 139 (.fad 1 (.t 15)),
 oO 140 (.load1 (.t 139)),
 oO 141 (.call 11 false [(.t 136), (.t 138), (.t 140)])]))))
 (.reg [oO 142 (.bin .add .no (.t 123) (.c (.int .i64 1))),
 oO 123 (.mv (.t 142))])))))))
 (.seq (.reg [oO 143 (.mv (.t 8)),
 oO 144 (.call 13 false [(.t 143)]),
 oO 145 (.call 16 false [(.t 144), (.c (.int .i64 100))]),
 oO 146 (.mv (.t 11)),
 oO 147 (.call 15 false [(.t 145), (.t 146)]),
 oO 148 (.mv (.t 147)),
 oG 149 (.call 9 false []) 148 true,
 oO 150 (.pick (.t 148) (.t 149) (.c (.bool false))),
 oO 6 (.mv (.t 150))])
 (.ret))))))))))⟩

/- redpencil/redpencillaw08.OmapPlays -/
def a6 : AFn := ⟨87, [.t 4],
  .seq (.reg [oO 4 (.mv (.c (.bool false)))])
 (.seq (.seq (.reg [oO 12 (.mv (.t 1)),
 oO 13 (.call 8 false [(.t 12)]),
 oO 14 (.un .not (.t 13))])
 (.cond (.t 14) (.seq (.reg [oO 15 (.call 9 false []),
 oO 4 (.mv (.t 15))])
 (.ret))
 (.skip)))
 (.seq (.reg [oO 16 (.mv (.t 0)),
 oO 17 (.call 10 false [(.t 16)]),
 oO 18 (.mv (.t 0)),
 oO 19 (.build [(.bool false), .nils] [(0, 1, (.t 18))]),
 oO 6 (.alloc [(.bool false), .nils]),
 oO 5 (.mv (.t 17)),
 ⟨none, .store 2 (.t 6) (.t 19), none, none, false⟩])
 (.seq (.seq (.reg [oO 20 (.mv (.t 5)),
 oO 21 (.bin .eql .np (.t 20) (.c .nilp))])
 (.cond (.t 21) (.seq (.reg [oO 4 (.mv (.c (.bool false)))])
 (.ret))
 (.skip)))
 (.seq (.seq (.reg [oO 22 (.mv (.t 1)),
 oO 23 (.len .sl (.t 22)),
 oO 24 (.mv (.c (.int .i64 0)))])
 (.block 0 (.loop (.seq (.reg [oO 25 (.bin .lss .no (.t 24) (.t 23))])
 (.seq (.cond (.t 25) (.skip)
 (.exit 0))
 (.seq (.block 1 (.seq (.reg [oO 26 (.iad 3 (.t 22) (.t 24)),
 oO 27 (.loadn 3 (.t 26)),
 oO 8 (.alloc [(.int .i64 0), (.int .i64 0), (.str ⟨#[]⟩)]),
 ⟨none, .store 3 (.t 8) (.t 27), none, none, false⟩])
 (.seq (.reg [oO 29 (.loadn 2 (.t 6)),
 oO 30 (.fad 1 (.t 8)),
 oO 31 (.load1 (.t 30)),
 oO 32 (.call 29 false [(.t 29), (.t 31)]),
 oO 28 (.mv (.t 32)),
 oO 33 (.ext (.t 28) 0),
 oO 34 (.ext (.t 28) 1),
 oO 9 (.mv (.t 33)),
 oO 10 (.mv (.t 34))])
 (.seq (.seq (.reg [oO 35 (.fad 0 (.t 8)),
 oO 36 (.load1 (.t 35))])
 (.block 2 (.seq (.reg [oO 49 (.bin .eql .no (.t 36) (.c (.int .i64 0))),
 oO 48 (.mv (.t 49))])
 (.cond (.t 48) (.seq (.seq (.reg [oO 50 (.mv (.t 5)),
 oO 51 (.fad 1 (.t 8)),
 oO 52 (.load1 (.t 51)),
 oO 53 (.fad 2 (.t 8)),
 oO 54 (.load1 (.t 53)),
 oO 55 (.mv (.t 9)),
 oO 56 (.mv (.t 10)),
 oO 57 (.call 30 false [(.t 50), (.t 52), (.t 54), (.t 55), (.t 56)]),
 oO 58 (.un .not (.t 57))])
 (.cond (.t 58) (.seq (.reg [oO 4 (.mv (.c (.bool false)))])
 (.ret))
 (.skip)))
 (.reg [oO 59 (.loadn 2 (.t 6)),
 oO 60 (.fad 1 (.t 8)),
 oO 61 (.load1 (.t 60)),
 oO 62 (.fad 2 (.t 8)),
 oO 63 (.load1 (.t 62)),
 oO 64 (.call 12 false [(.t 59), (.t 61), (.t 63)]),
 ⟨none, .store 2 (.t 6) (.t 64), none, none, false⟩]))
 (.seq (.reg [oO 66 (.bin .eql .no (.t 36) (.c (.int .i64 1))),
 oO 65 (.mv (.t 66))])
 (.cond (.t 65) (.seq (.seq (.reg [oO 67 (.mv (.t 5)),
 oO 68 (.fad 1 (.t 8)),
 oO 69 (.load1 (.t 68)),
 oO 70 (.call 17 false [(.t 67), (.t 69)]),
 oO 71 (.mv (.t 10)),
 oO 72 (.bin .neq .bo (.t 70) (.t 71))])
 (.cond (.t 72) (.seq (.reg [oO 4 (.mv (.c (.bool false)))])
 (.ret))
 (.skip)))
 (.reg [oO 73 (.loadn 2 (.t 6)),
 oO 74 (.fad 1 (.t 8)),
 oO 75 (.load1 (.t 74)),
 oO 76 (.call 31 false [(.t 73), (.t 75)]),
 ⟨none, .store 2 (.t 6) (.t 76), none, none, false⟩]))
 (.seq (.reg [oO 78 (.bin .eql .no (.t 36) (.c (.int .i64 2))),
 oO 77 (.mv (.t 78))])
 (.cond (.t 77) (.skip)
 (.seq (.reg [oO 37 (.mv (.t 5)),
 oO 38 (.call 32 false [(.t 37)]),
 oO 11 (.mv (.t 38))])
 (.seq (.seq (.reg [oO 39 (.mv (.t 11)),
 oO 40 (.bin .eql .np (.t 39) (.c .nilp))])
 (.cond (.t 40) (.seq (.reg [oO 4 (.mv (.c (.bool false)))])
 (.ret))
 (.skip)))
 (.seq (.reg [oO 41 (.mv (.t 5)),
 oO 42 (.fad 1 (.t 8)),
 oO 43 (.load1 (.t 42)),
 oO 44 (.call 11 false [(.t 41), (.t 43), (.c (.str ⟨#[111, 108, 100]⟩))])])
 (.seq (.reg [oO 45 (.mv (.t 5)),
 oO 46 (.call 17 false [(.t 45), (.c (.int .i64 0))])])
 (.reg [oO 47 (.mv (.t 11)),
 oO 5 (.mv (.t 47))])))))))))))))
 (.seq (.reg [oO 79 (.mv (.t 5)),
 oO 80 (.loadn 2 (.t 6)),
 oO 81 (.fad 1 (.t 8)),
 oO 82 (.load1 (.t 81)),
 oO 83 (.call 33 false [(.t 79), (.t 80), (.t 82)]),
 oO 84 (.un .not (.t 83))])
 (.cond (.t 84) (.seq (.reg [oO 4 (.mv (.c (.bool false)))])
 (.ret))
 (.skip)))))))
 (.reg [oO 85 (.bin .add .no (.t 24) (.c (.int .i64 1))),
 oO 24 (.mv (.t 85))])))))))
 (.seq (.reg [oO 86 (.call 9 false []),
 oO 4 (.mv (.t 86))])
 (.ret))))))⟩

/- redpencil/redpencillaw08.OmapNil -/
def a7 : AFn := ⟨104, [.t 4],
  .seq (.reg [oO 4 (.mv (.c (.bool false)))])
 (.seq (.reg [oO 5 (.mv (.c .nilp))])
 (.seq (.reg [oO 6 (.alloc [(.int .i64 0), (.str ⟨#[]⟩)])])
 (.seq (.seq (.reg [oO 9 (.mv (.t 5)),
 oO 10 (.build [.nilf, .nils] []),
 oO 11 (.box 2 (.t 10)),
 oO 12 (.bsl [.nilp, .nilp] 2 1 [(0, (.t 9)), (1, (.t 11))]),
 oO 13 (.len .sl (.t 12)),
 oO 14 (.mv (.c (.int .i64 0)))])
 (.block 0 (.loop (.seq (.reg [oO 15 (.bin .lss .no (.t 14) (.t 13))])
 (.seq (.cond (.t 15) (.skip)
 (.exit 0))
 (.seq (.block 1 (.seq (.reg [oO 16 (.iad 1 (.t 12) (.t 14)),
 oO 17 (.load1 (.t 16)),
 oO 8 (.mv (.t 17))])
 (.seq (.reg [oO 18 (.mv (.t 8)),
 oO 19 (.mv (.t 0)),
 oO 20 (.call 30 false [(.t 18), (.t 19), (.c (.str ⟨#[120]⟩)), (.c (.str ⟨#[]⟩)), (.c (.bool false))]),
 oO 21 (.un .not (.t 20)),
 oO 22 (.mv (.t 21)),
 oG 23 (.mv (.t 8)) 22 false,
 oG 24 (.mv (.t 0)) 22 false,
 oG 25 (.call 28 false [(.t 23), (.t 24), (.c (.str ⟨#[]⟩)), (.c (.bool false))]) 22 false,
 oG 26 (.un .not (.t 25)) 22 false,
 oO 27 (.pick (.t 22) (.c (.bool true)) (.t 26)),
 oO 28 (.mv (.t 27)),
 oG 29 (.mv (.t 8)) 28 false,
 oG 30 (.mv (.t 0)) 28 false,
 oG 31 (.call 17 false [(.t 29), (.t 30)]) 28 false,
 oO 32 (.pick (.t 28) (.c (.bool true)) (.t 31)),
 oO 33 (.mv (.t 32)),
 oG 34 (.mv (.t 8)) 33 false,
 oG 35 (.call 25 false [(.t 34)]) 33 false,
 oG 36 (.bin .neq .no (.t 35) (.c (.int .i64 0))) 33 false,
 oO 37 (.pick (.t 33) (.c (.bool true)) (.t 36)),
 oO 38 (.mv (.t 37)),
 oG 39 (.mv (.t 8)) 38 false,
 oG 40 (.mv (.t 1)) 38 false,
 oG 41 (.loadn 2 (.t 6)) 38 false,
 oG 42 (.call 27 false [(.t 39), (.t 40), (.t 41), (.c (.bool false))]) 38 false,
 oG 43 (.un .not (.t 42)) 38 false,
 oO 44 (.pick (.t 38) (.c (.bool true)) (.t 43)),
 oO 45 (.mv (.t 44)),
 oG 46 (.mv (.t 8)) 45 false,
 oG 47 (.loadn 2 (.t 6)) 45 false,
 oG 48 (.call 27 false [(.t 46), (.c (.int .i64 0)), (.t 47), (.c (.bool false))]) 45 false,
 oG 49 (.un .not (.t 48)) 45 false,
 oO 50 (.pick (.t 45) (.c (.bool true)) (.t 49)),
 oO 51 (.mv (.t 50)),
 oG 52 (.mv (.t 8)) 51 false,
 oG 53 (.mv (.t 0)) 51 false,
 oG 54 (.call 26 false [(.t 52), (.t 53)]) 51 false,
 oG 55 (.bin .neq .no (.t 54) (.c (.int .i64 0))) 51 false,
 oO 56 (.pick (.t 51) (.c (.bool true)) (.t 55)),
 oO 57 (.mv (.t 56)),
 oG 58 (.mv (.t 8)) 57 false,
 oG 59 (.mv (.t 0)) 57 false,
 oG 60 (.loadn 2 (.t 6)) 57 false,
 oG 61 (.call 34 false [(.t 58), (.t 59), (.t 60), (.c (.bool false))]) 57 false,
 oG 62 (.un .not (.t 61)) 57 false,
 oO 63 (.pick (.t 57) (.c (.bool true)) (.t 62)),
 oO 64 (.mv (.t 63)),
 oG 65 (.mv (.t 8)) 64 false,
 oG 66 (.mv (.t 0)) 64 false,
 oG 67 (.loadn 2 (.t 6)) 64 false,
 oG 68 (.call 35 false [(.t 65), (.t 66), (.t 67), (.c (.bool false))]) 64 false,
 oG 69 (.un .not (.t 68)) 64 false,
 oO 70 (.pick (.t 64) (.c (.bool true)) (.t 69)),
 oO 71 (.mv (.t 70)),
 oG 72 (.mv (.t 8)) 71 false,
 oG 73 (.call 13 false [(.t 72)]) 71 false,
 oG 74 (.bin .eql .nf (.t 73) (.c .nilf)) 71 false,
 oO 75 (.pick (.t 71) (.c (.bool true)) (.t 74)),
 oO 76 (.mv (.t 75)),
 oG 77 (.mv (.t 8)) 76 false,
 oG 78 (.mv (.t 0)) 76 false,
 oG 79 (.call 14 false [(.t 77), (.t 78)]) 76 false,
 oG 80 (.bin .eql .nf (.t 79) (.c .nilf)) 76 false,
 oO 81 (.pick (.t 76) (.c (.bool true)) (.t 80)),
 oO 82 (.mv (.t 81)),
 oG 83 (.mv (.t 8)) 82 false,
 oG 84 (.call 13 false [(.t 83)]) 82 false,
 oG 85 (.call 16 false [(.t 84), (.c (.int .i64 9))]) 82 false,
 oG 86 (.len .sl (.t 85)) 82 false,
 oG 87 (.bin .neq .no (.t 86) (.c (.int .i64 0))) 82 false,
 oO 88 (.pick (.t 82) (.c (.bool true)) (.t 87)),
 oO 89 (.mv (.t 88)),
 oG 90 (.mv (.t 8)) 89 false,
 oG 91 (.mv (.t 0)) 89 false,
 oG 92 (.call 14 false [(.t 90), (.t 91)]) 89 false,
 oG 93 (.call 16 false [(.t 92), (.c (.int .i64 9))]) 89 false,
 oG 94 (.len .sl (.t 93)) 89 false,
 oG 95 (.bin .neq .no (.t 94) (.c (.int .i64 0))) 89 false,
 oO 96 (.pick (.t 89) (.c (.bool true)) (.t 95)),
 oO 97 (.mv (.t 96)),
 oG 98 (.mv (.t 8)) 97 false,
 oG 99 (.call 32 false [(.t 98)]) 97 false,
 oG 100 (.bin .neq .np (.t 99) (.c .nilp)) 97 false,
 oO 101 (.pick (.t 97) (.c (.bool true)) (.t 100))])
 (.cond (.t 101) (.seq (.reg [oO 4 (.mv (.c (.bool false)))])
 (.ret))
 (.skip)))))
 (.reg [oO 102 (.bin .add .no (.t 14) (.c (.int .i64 1))),
 oO 14 (.mv (.t 102))])))))))
 (.seq (.reg [oO 103 (.call 9 false []),
 oO 4 (.mv (.t 103))])
 (.ret)))))⟩

/- redpencil/redpencillaw08.light -/
def a8 : AFn := ⟨40, [.t 2],
  .seq (.reg [oO 2 (.mv (.c (.bool false)))])
 (.seq (.seq (.reg [oO 3 (.mv (.c (.int .i64 0)))])
 (.block 0 (.loop (.seq (.seq (.reg [oO 4 (.mv (.t 3)),
 oO 5 (.mv (.t 0)),
 oO 6 (.len .sl (.t 5)),
 oO 7 (.bin .lss .no (.t 4) (.t 6)),
 oO 8 (.mv (.t 7)),
 oG 9 (.mv (.t 3)) 8 true,
 oG 10 (.bin .lss .no (.t 9) (.c (.int .i64 61))) 8 true,
 oO 11 (.pick (.t 8) (.t 10) (.c (.bool false)))])
 (.cond (.t 11) (.skip)
 (.exit 0)))
 (.seq (.block 1 (.seq (.reg [oO 14 (.mv (.t 0)),
 oO 15 (.mv (.t 3)),
 oO 16 (.iad 3 (.t 14) (.t 15)),
 oO 17 (.fad 2 (.t 16)),
 oO 18 (.load1 (.t 17)),
 oO 19 (.len .st (.t 18)),
 oO 20 (.bin .gtr .no (.t 19) (.c (.int .i64 100))),
 oO 21 (.mv (.t 20)),
 oG 22 (.mv (.t 0)) 21 false,
 oG 23 (.mv (.t 3)) 21 false,
 oG 24 (.iad 3 (.t 22) (.t 23)) 21 false,
 oG 25 (.fad 1 (.t 24)) 21 false,
 oG 26 (.load1 (.t 25)) 21 false,
 oG 27 (.bin .gtr .no (.t 26) (.c (.int .i64 4611686018427387904))) 21 false,
 oO 28 (.pick (.t 21) (.c (.bool true)) (.t 27)),
 oO 29 (.mv (.t 28)),
 oG 30 (.mv (.t 0)) 29 false,
 oG 31 (.mv (.t 3)) 29 false,
 oG 32 (.iad 3 (.t 30) (.t 31)) 29 false,
 oG 33 (.fad 1 (.t 32)) 29 false,
 oG 34 (.load1 (.t 33)) 29 false,
 oG 35 (.bin .lss .no (.t 34) (.c (.int .i64 (-4611686018427387904)))) 29 false,
 oO 36 (.pick (.t 29) (.c (.bool true)) (.t 35))])
 (.cond (.t 36) (.seq (.reg [oO 2 (.mv (.c (.bool false)))])
 (.ret))
 (.skip))))
 (.reg [oO 12 (.mv (.t 3)),
 oO 13 (.bin .add .no (.t 12) (.c (.int .i64 1))),
 oO 3 (.mv (.t 13))]))))))
 (.seq (.reg [oO 37 (.mv (.t 0)),
 oO 38 (.len .sl (.t 37)),
 oO 39 (.bin .leq .no (.t 38) (.c (.int .i64 60))),
 oO 2 (.mv (.t 39))])
 (.ret)))⟩

/- redpencil/redpencillaw08.known -/
def a9 : AFn := ⟨120, [.t 0],
  .seq (.reg [oO 0 (.mv (.c (.bool false)))])
 (.seq (.reg [oO 5 (.call 10 false [(.c (.bool false))]),
 oO 1 (.mv (.t 5))])
 (.seq (.reg [oO 6 (.build [(.int .i64 0), (.str ⟨#[]⟩)] [(0, 1, (.c (.int .i64 2))), (1, 1, (.c (.str ⟨#[98]⟩)))]),
 oO 7 (.build [(.int .i64 0), (.str ⟨#[]⟩)] [(0, 1, (.c (.int .i64 5))), (1, 1, (.c (.str ⟨#[99]⟩)))]),
 oO 8 (.build [(.int .i64 0), (.str ⟨#[]⟩)] []),
 oO 2 (.alloc [(.int .i64 0), (.str ⟨#[]⟩)]),
 oO 3 (.alloc [(.int .i64 0), (.str ⟨#[]⟩)]),
 oO 4 (.alloc [(.int .i64 0), (.str ⟨#[]⟩)]),
 ⟨none, .store 2 (.t 2) (.t 6), none, none, false⟩,
 ⟨none, .store 2 (.t 3) (.t 7), none, none, false⟩,
 ⟨none, .store 2 (.t 4) (.t 8), none, none, false⟩])
 (.seq (.seq (.regd 1 [oO 9 (.mv (.t 1)),
 oO 10 (.bin .eql .np (.t 9) (.c .nilp)),
 oO 11 (.mv (.t 10)),
 oG 12 (.mv (.t 1)) 11 false,
 oG 13 (.call 30 false [(.t 12), (.c (.int .i64 5)), (.c (.str ⟨#[97]⟩)), (.c (.str ⟨#[]⟩)), (.c (.bool false))]) 11 false,
 oG 14 (.un .not (.t 13)) 11 false,
 oO 15 (.pick (.t 11) (.c (.bool true)) (.t 14)),
 oO 16 (.mv (.t 15)),
 oG 17 (.mv (.t 1)) 16 false,
 oG 18 (.call 30 false [(.t 17), (.c (.int .i64 2)), (.c (.str ⟨#[98]⟩)), (.c (.str ⟨#[]⟩)), (.c (.bool false))]) 16 false,
 oG 19 (.un .not (.t 18)) 16 false,
 oO 20 (.pick (.t 16) (.c (.bool true)) (.t 19)),
 oO 21 (.mv (.t 20)),
 oG 22 (.mv (.t 1)) 21 false,
 oG 23 (.call 30 false [(.t 22), (.c (.int .i64 5)), (.c (.str ⟨#[99]⟩)), (.c (.str ⟨#[97]⟩)), (.c (.bool true))]) 21 false,
 oG 24 (.un .not (.t 23)) 21 false,
 oO 25 (.pick (.t 21) (.c (.bool true)) (.t 24)),
 oO 26 (.mv (.t 25)),
 oG 27 (.mv (.t 1)) 26 false,
 oG 28 (.call 28 false [(.t 27), (.c (.int .i64 5)), (.c (.str ⟨#[99]⟩)), (.c (.bool true))]) 26 false,
 oG 29 (.un .not (.t 28)) 26 false,
 oO 30 (.pick (.t 26) (.c (.bool true)) (.t 29)),
 oO 31 (.mv (.t 30)),
 oG 32 (.mv (.t 1)) 31 false,
 oG 33 (.call 28 false [(.t 32), (.c (.int .i64 3)), (.c (.str ⟨#[]⟩)), (.c (.bool false))]) 31 false,
 oG 34 (.un .not (.t 33)) 31 false,
 oO 35 (.pick (.t 31) (.c (.bool true)) (.t 34)),
 oO 36 (.mv (.t 35)),
 oG 37 (.mv (.t 1)) 36 false,
 oG 38 (.call 25 false [(.t 37)]) 36 false,
 oG 39 (.bin .neq .no (.t 38) (.c (.int .i64 2))) 36 false,
 oO 40 (.pick (.t 36) (.c (.bool true)) (.t 39)),
 oO 41 (.mv (.t 40)),
 oG 42 (.mv (.t 1)) 41 false,
 ⟨(some 43), .call 13 false [(.t 42)], (some (41, false)), none, true⟩,
 ⟨(some 44), .call 16 false [(.t 43), (.c (.int .i64 9))], (some (41, false)), none, true⟩,
 oG 45 (.loadn 2 (.t 2)) 41 false,
 oG 46 (.loadn 2 (.t 3)) 41 false,
 ⟨(some 47), .bsl [(.int .i64 0), (.str ⟨#[]⟩), (.int .i64 0), (.str ⟨#[]⟩)] 2 2 [(0, (.t 45)), (1, (.t 46))], (some (41, false)), (some 0), false⟩,
 oG 48 (.call 15 false [(.t 44), (.t 47)]) 41 false,
 oG 49 (.un .not (.t 48)) 41 false,
 oO 50 (.pick (.t 41) (.c (.bool true)) (.t 49))])
 (.cond (.t 50) (.seq (.reg [oO 0 (.mv (.c (.bool false)))])
 (.ret))
 (.skip)))
 (.seq (.seq (.regd 1 [oO 51 (.mv (.t 1)),
 oO 52 (.loadn 2 (.t 2)),
 oO 53 (.call 27 false [(.t 51), (.c (.int .i64 0)), (.t 52), (.c (.bool true))]),
 oO 54 (.un .not (.t 53)),
 oO 55 (.mv (.t 54)),
 oG 56 (.mv (.t 1)) 55 false,
 oG 57 (.loadn 2 (.t 4)) 55 false,
 oG 58 (.call 27 false [(.t 56), (.c (.int .i64 2)), (.t 57), (.c (.bool false))]) 55 false,
 oG 59 (.un .not (.t 58)) 55 false,
 oO 60 (.pick (.t 55) (.c (.bool true)) (.t 59)),
 oO 61 (.mv (.t 60)),
 oG 62 (.mv (.t 1)) 61 false,
 oG 63 (.call 26 false [(.t 62), (.c (.int .i64 5))]) 61 false,
 oG 64 (.bin .neq .no (.t 63) (.c (.int .i64 1))) 61 false,
 oO 65 (.pick (.t 61) (.c (.bool true)) (.t 64)),
 oO 66 (.mv (.t 65)),
 oG 67 (.mv (.t 1)) 66 false,
 oG 68 (.call 26 false [(.t 67), (.c (.int .i64 3))]) 66 false,
 oG 69 (.bin .neq .no (.t 68) (.c (.int .i64 1))) 66 false,
 oO 70 (.pick (.t 66) (.c (.bool true)) (.t 69)),
 oO 71 (.mv (.t 70)),
 oG 72 (.mv (.t 1)) 71 false,
 oG 73 (.loadn 2 (.t 2)) 71 false,
 oG 74 (.call 34 false [(.t 72), (.c (.int .i64 4)), (.t 73), (.c (.bool true))]) 71 false,
 oG 75 (.un .not (.t 74)) 71 false,
 oO 76 (.pick (.t 71) (.c (.bool true)) (.t 75)),
 oO 77 (.mv (.t 76)),
 oG 78 (.mv (.t 1)) 77 false,
 oG 79 (.loadn 2 (.t 4)) 77 false,
 oG 80 (.call 34 false [(.t 78), (.c (.int .i64 1)), (.t 79), (.c (.bool false))]) 77 false,
 oG 81 (.un .not (.t 80)) 77 false,
 oO 82 (.pick (.t 77) (.c (.bool true)) (.t 81)),
 oO 83 (.mv (.t 82)),
 oG 84 (.mv (.t 1)) 83 false,
 oG 85 (.loadn 2 (.t 3)) 83 false,
 oG 86 (.call 35 false [(.t 84), (.c (.int .i64 3)), (.t 85), (.c (.bool true))]) 83 false,
 oG 87 (.un .not (.t 86)) 83 false,
 oO 88 (.pick (.t 83) (.c (.bool true)) (.t 87)),
 oO 89 (.mv (.t 88)),
 oG 90 (.mv (.t 1)) 89 false,
 oG 91 (.loadn 2 (.t 4)) 89 false,
 oG 92 (.call 35 false [(.t 90), (.c (.int .i64 6)), (.t 91), (.c (.bool false))]) 89 false,
 oG 93 (.un .not (.t 92)) 89 false,
 oO 94 (.pick (.t 89) (.c (.bool true)) (.t 93)),
 oO 95 (.mv (.t 94)),
 oG 96 (.mv (.t 1)) 95 false,
 ⟨(some 97), .call 14 false [(.t 96), (.c (.int .i64 3))], (some (95, false)), none, true⟩,
 ⟨(some 98), .call 16 false [(.t 97), (.c (.int .i64 9))], (some (95, false)), none, true⟩,
 oG 99 (.loadn 2 (.t 3)) 95 false,
 ⟨(some 100), .bsl [(.int .i64 0), (.str ⟨#[]⟩)] 1 2 [(0, (.t 99))], (some (95, false)), (some 0), false⟩,
 oG 101 (.call 15 false [(.t 98), (.t 100)]) 95 false,
 oG 102 (.un .not (.t 101)) 95 false,
 oO 103 (.pick (.t 95) (.c (.bool true)) (.t 102))])
 (.cond (.t 103) (.seq (.reg [oO 0 (.mv (.c (.bool false)))])
 (.ret))
 (.skip)))
 (.seq (.reg [oO 104 (.mv (.t 1)),
 oO 105 (.call 17 false [(.t 104), (.c (.int .i64 2))]),
 oO 106 (.mv (.t 105)),
 oG 107 (.mv (.t 1)) 106 true,
 oG 108 (.call 17 false [(.t 107), (.c (.int .i64 2))]) 106 true,
 oG 109 (.un .not (.t 108)) 106 true,
 oO 110 (.pick (.t 106) (.t 109) (.c (.bool false))),
 oO 111 (.mv (.t 110)),
 oG 112 (.mv (.t 1)) 111 true,
 oG 113 (.call 25 false [(.t 112)]) 111 true,
 oG 114 (.bin .eql .no (.t 113) (.c (.int .i64 1))) 111 true,
 oO 115 (.pick (.t 111) (.t 114) (.c (.bool false))),
 oO 116 (.mv (.t 115)),
 oG 117 (.call 36 false [(.c .nilf)]) 116 true,
 oG 118 (.bin .eql .np (.t 117) (.c .nilp)) 116 true,
 oO 119 (.pick (.t 116) (.t 118) (.c (.bool false))),
 oO 0 (.mv (.t 119))])
 (.ret))))))⟩

/- redpencil/redpencillaw08.made -/
def a10 : AFn := ⟨6, [.t 2],
  .seq (.reg [oO 2 (.mv (.c .nilp))])
 (.seq (.seq (.reg [oO 3 (.mv (.t 0))])
 (.cond (.t 3) (.seq (.reg [oO 4 (.call 36 false [(.f 37)]),
 oO 2 (.mv (.t 4))])
 (.ret))
 (.skip)))
 (.seq (.reg [oO 5 (.call 36 false [(.f 38)]),
 oO 2 (.mv (.t 5))])
 (.ret)))⟩

/- (*redpencil/omap.Map[int, string]).Set -/
def a11 : AFn := ⟨52, [.t 6, .t 7],
  .seq (.reg [oO 6 (.mv (.c (.str ⟨#[]⟩))),
 oO 7 (.mv (.c (.bool false)))])
 (.seq (.seq (.reg [oO 10 (.mv (.t 0)),
 oO 11 (.call 39 false [(.t 10)])])
 (.cond (.t 11) (.seq (.reg [oO 12 (.mv (.t 6)),
 oO 6 (.mv (.t 12)),
 oO 7 (.mv (.c (.bool false)))])
 (.ret))
 (.skip)))
 (.seq (.reg [oO 14 (.mv (.t 0)),
 oO 15 (.mv (.t 1)),
 oO 16 (.call 40 false [(.t 14), (.t 15)]),
 oO 13 (.mv (.t 16)),
 oO 17 (.ext (.t 13) 0),
 oO 18 (.ext (.t 13) 1),
 oO 8 (.mv (.t 17)),
 oO 9 (.mv (.t 18))])
 (.seq (.seq (.reg [oO 19 (.mv (.t 9)),
 oO 20 (.un .not (.t 19))])
 (.cond (.t 20) (.seq (.reg [oO 21 (.mv (.t 0)),
 oO 22 (.mv (.t 0)),
 oO 23 (.nchk (.t 22)),
 oO 24 (.fad 1 (.t 23)),
 oO 25 (.load1 (.t 24)),
 oO 26 (.mv (.t 8)),
 oO 27 (.mv (.t 1)),
 oO 28 (.mv (.t 2)),
 oO 29 (.build [(.int .i64 0), (.str ⟨#[]⟩)] [(0, 1, (.t 27)), (1, 1, (.t 28))]),
 oO 30 (.bsl [(.int .i64 0), (.str ⟨#[]⟩)] 1 2 [(0, (.t 29))]),
 oO 31 (.call 41 false [(.t 25), (.t 26), (.t 30)]),
 oO 32 (.nchk (.t 21)),
 oO 33 (.fad 1 (.t 32)),
 ⟨none, .store 1 (.t 33) (.t 31), none, none, false⟩])
 (.seq (.reg [oO 34 (.mv (.t 6)),
 oO 6 (.mv (.t 34)),
 oO 7 (.mv (.c (.bool false)))])
 (.ret)))
 (.skip)))
 (.seq (.reg [oO 35 (.mv (.t 0)),
 oO 36 (.nchk (.t 35)),
 oO 37 (.fad 1 (.t 36)),
 oO 38 (.load1 (.t 37)),
 oO 39 (.mv (.t 8)),
 oO 40 (.iad 2 (.t 38) (.t 39)),
 oO 41 (.fad 1 (.t 40)),
 oO 42 (.load1 (.t 41)),
 oO 6 (.mv (.t 42))])
 (.seq (.reg [oO 43 (.mv (.t 0)),
 oO 44 (.nchk (.t 43)),
 oO 45 (.fad 1 (.t 44)),
 oO 46 (.load1 (.t 45)),
 oO 47 (.mv (.t 8)),
 oO 48 (.mv (.t 2)),
 oO 49 (.iad 2 (.t 46) (.t 47)),
 oO 50 (.fad 1 (.t 49)),
 ⟨none, .store 1 (.t 50) (.t 48), none, none, false⟩])
 (.seq (.reg [oO 51 (.mv (.t 6)),
 oO 6 (.mv (.t 51)),
 oO 7 (.mv (.c (.bool true)))])
 (.ret)))))))⟩

/- (redpencil/redpencilref08.Map).Set -/
/- (*redpencil/omap.Map[int, string]).All -/
def a13 : AFn := ⟨11, [.t 2],
  .seq (.reg [oO 2 (.mv (.c .nilf))])
 (.seq (.seq (.reg [oO 3 (.mv (.t 0)),
 oO 4 (.call 39 false [(.t 3)])])
 (.cond (.t 4) (.seq (.reg [oO 5 (.call 43 false [(.c .nils)]),
 oO 2 (.mv (.t 5))])
 (.ret))
 (.skip)))
 (.seq (.reg [oO 6 (.mv (.t 0)),
 oO 7 (.nchk (.t 6)),
 oO 8 (.fad 1 (.t 7)),
 oO 9 (.load1 (.t 8)),
 oO 10 (.call 43 false [(.t 9)]),
 oO 2 (.mv (.t 10))])
 (.ret)))⟩

/- (*redpencil/omap.Map[int, string]).From -/
def a14 : AFn := ⟨17, [.t 4],
  .seq (.reg [oO 4 (.mv (.c .nilf))])
 (.seq (.seq (.reg [oO 5 (.mv (.t 0)),
 oO 6 (.call 39 false [(.t 5)])])
 (.cond (.t 6) (.seq (.reg [oO 7 (.call 43 false [(.c .nils)]),
 oO 4 (.mv (.t 7))])
 (.ret))
 (.skip)))
 (.seq (.regd 0 [oO 8 (.mv (.t 0)),
 oO 9 (.nchk (.t 8)),
 oO 10 (.fad 1 (.t 9)),
 oO 11 (.load1 (.t 10)),
 oO 12 (.mv (.t 0)),
 oO 13 (.mv (.t 1)),
 oO 14 (.call 26 true [(.t 12), (.t 13)]),
 oO 15 (.slc 2 (.t 11) (some (.t 14)) none none),
 oO 16 (.call 43 false [(.t 15)]),
 oO 4 (.mv (.t 16))])
 (.ret)))⟩

/- redpencil/redpencilref08.Same -/
def a15 : AFn := ⟨26, [.t 4],
  .seq (.reg [oO 4 (.mv (.c (.bool false)))])
 (.seq (.seq (.reg [oO 6 (.mv (.t 0)),
 oO 7 (.len .sl (.t 6)),
 oO 8 (.mv (.t 1)),
 oO 9 (.len .sl (.t 8)),
 oO 10 (.bin .neq .no (.t 7) (.t 9))])
 (.cond (.t 10) (.seq (.reg [oO 4 (.mv (.c (.bool false)))])
 (.ret))
 (.skip)))
 (.seq (.seq (.reg [oO 5 (.mv (.c (.int .i64 0)))])
 (.block 0 (.loop (.seq (.seq (.reg [oO 11 (.mv (.t 5)),
 oO 12 (.mv (.t 0)),
 oO 13 (.len .sl (.t 12)),
 oO 14 (.bin .lss .no (.t 11) (.t 13))])
 (.cond (.t 14) (.skip)
 (.exit 0)))
 (.seq (.block 1 (.seq (.regd 0 [oO 17 (.mv (.t 0)),
 oO 18 (.mv (.t 5)),
 oO 19 (.iad 2 (.t 17) (.t 18)),
 oO 20 (.loadn 2 (.t 19)),
 oO 21 (.mv (.t 1)),
 oO 22 (.mv (.t 5)),
 oO 23 (.iad 2 (.t 21) (.t 22)),
 oO 24 (.loadn 2 (.t 23)),
 oO 25 (.bin .neq (.fl [.i, .s]) (.t 20) (.t 24))])
 (.cond (.t 25) (.seq (.reg [oO 4 (.mv (.c (.bool false)))])
 (.ret))
 (.skip))))
 (.reg [oO 15 (.mv (.t 5)),
 oO 16 (.bin .add .no (.t 15) (.c (.int .i64 1))),
 oO 5 (.mv (.t 16))]))))))
 (.seq (.reg [oO 4 (.mv (.c (.bool true)))])
 (.ret))))⟩

/- redpencil/redpencillaw08.pairs -/
/- (*redpencil/omap.Map[int, string]).Delete -/
def a17 : AFn := ⟨26, [.t 4],
  .seq (.reg [oO 4 (.mv (.c (.bool false)))])
 (.seq (.reg [oO 8 (.mv (.t 0)),
 oO 9 (.mv (.t 1)),
 oO 10 (.call 40 false [(.t 8), (.t 9)]),
 oO 7 (.mv (.t 10)),
 oO 11 (.ext (.t 7) 0),
 oO 12 (.ext (.t 7) 1),
 oO 5 (.mv (.t 11)),
 oO 6 (.mv (.t 12))])
 (.seq (.seq (.reg [oO 13 (.mv (.t 6))])
 (.cond (.t 13) (.reg [oO 14 (.mv (.t 0)),
 oO 15 (.mv (.t 0)),
 oO 16 (.nchk (.t 15)),
 oO 17 (.fad 1 (.t 16)),
 oO 18 (.load1 (.t 17)),
 oO 19 (.mv (.t 5)),
 oO 20 (.mv (.t 5)),
 oO 21 (.bin .add .no (.t 20) (.c (.int .i64 1))),
 oO 22 (.call 44 false [(.t 18), (.t 19), (.t 21)]),
 oO 23 (.nchk (.t 14)),
 oO 24 (.fad 1 (.t 23)),
 ⟨none, .store 1 (.t 24) (.t 22), none, none, false⟩])
 (.skip)))
 (.seq (.reg [oO 25 (.mv (.t 6)),
 oO 4 (.mv (.t 25))])
 (.ret))))⟩

/- (redpencil/redpencilref08.Map).From -/
/- redpencil/omap.New[string,[]int] -/
def a19 : AFn := ⟨8, [.t 2],
  .seq (.reg [oO 2 (.mv (.c .nilp))])
 (.seq (.seq (.reg [oO 3 (.mv (.t 0)),
 oO 4 (.bin .eql .nf (.t 3) (.c .nilf))])
 (.cond (.t 4) (.seq (.reg [oO 2 (.mv (.c .nilp))])
 (.ret))
 (.skip)))
 (.seq (.reg [oO 5 (.mv (.t 0)),
 oO 6 (.build [.nilf, .nils] [(0, 1, (.t 5))]),
 oO 7 (.box 2 (.t 6)),
 oO 2 (.mv (.t 7))])
 (.ret)))⟩

/- redpencil/redpencillaw08.shorter -/
def a20 : AFn := ⟨10, [.t 4],
  .seq (.reg [oO 4 (.mv (.c (.int .i64 0)))])
 (.seq (.reg [oO 5 (.mv (.t 0)),
 oO 6 (.len .st (.t 5)),
 oO 7 (.mv (.t 1)),
 oO 8 (.len .st (.t 7)),
 oO 9 (.bin .sub .no (.t 6) (.t 8)),
 oO 4 (.mv (.t 9))])
 (.ret))⟩

/- (*redpencil/omap.Map[string, []int]).Get -/
def a21 : AFn := ⟨24, [.t 4, .t 5],
  .seq (.reg [oO 4 (.mv (.c .nils)),
 oO 5 (.mv (.c (.bool false)))])
 (.seq (.reg [oO 8 (.mv (.t 0)),
 oO 9 (.mv (.t 1)),
 oO 10 (.call 45 false [(.t 8), (.t 9)]),
 oO 7 (.mv (.t 10)),
 oO 11 (.ext (.t 7) 0),
 oO 12 (.ext (.t 7) 1),
 oO 6 (.mv (.t 11)),
 oO 5 (.mv (.t 12))])
 (.seq (.seq (.reg [oO 13 (.mv (.t 5)),
 oO 14 (.un .not (.t 13))])
 (.cond (.t 14) (.seq (.reg [oO 15 (.mv (.t 4)),
 oO 4 (.mv (.t 15)),
 oO 5 (.mv (.c (.bool false)))])
 (.ret))
 (.skip)))
 (.seq (.reg [oO 16 (.mv (.t 0)),
 oO 17 (.nchk (.t 16)),
 oO 18 (.fad 1 (.t 17)),
 oO 19 (.load1 (.t 18)),
 oO 20 (.mv (.t 6)),
 oO 21 (.iad 2 (.t 19) (.t 20)),
 oO 22 (.fad 1 (.t 21)),
 oO 23 (.load1 (.t 22)),
 oO 4 (.mv (.t 23)),
 oO 5 (.mv (.c (.bool true)))])
 (.ret))))⟩

/- (*redpencil/omap.Map[string, []int]).Set -/
def a22 : AFn := ⟨52, [.t 6, .t 7],
  .seq (.reg [oO 6 (.mv (.c .nils)),
 oO 7 (.mv (.c (.bool false)))])
 (.seq (.seq (.reg [oO 10 (.mv (.t 0)),
 oO 11 (.call 46 false [(.t 10)])])
 (.cond (.t 11) (.seq (.reg [oO 12 (.mv (.t 6)),
 oO 6 (.mv (.t 12)),
 oO 7 (.mv (.c (.bool false)))])
 (.ret))
 (.skip)))
 (.seq (.reg [oO 14 (.mv (.t 0)),
 oO 15 (.mv (.t 1)),
 oO 16 (.call 45 false [(.t 14), (.t 15)]),
 oO 13 (.mv (.t 16)),
 oO 17 (.ext (.t 13) 0),
 oO 18 (.ext (.t 13) 1),
 oO 8 (.mv (.t 17)),
 oO 9 (.mv (.t 18))])
 (.seq (.seq (.reg [oO 19 (.mv (.t 9)),
 oO 20 (.un .not (.t 19))])
 (.cond (.t 20) (.seq (.reg [oO 21 (.mv (.t 0)),
 oO 22 (.mv (.t 0)),
 oO 23 (.nchk (.t 22)),
 oO 24 (.fad 1 (.t 23)),
 oO 25 (.load1 (.t 24)),
 oO 26 (.mv (.t 8)),
 oO 27 (.mv (.t 1)),
 oO 28 (.mv (.t 2)),
 oO 29 (.build [(.str ⟨#[]⟩), .nils] [(0, 1, (.t 27)), (1, 1, (.t 28))]),
 oO 30 (.bsl [(.str ⟨#[]⟩), .nils] 1 2 [(0, (.t 29))]),
 oO 31 (.call 47 false [(.t 25), (.t 26), (.t 30)]),
 oO 32 (.nchk (.t 21)),
 oO 33 (.fad 1 (.t 32)),
 ⟨none, .store 1 (.t 33) (.t 31), none, none, false⟩])
 (.seq (.reg [oO 34 (.mv (.t 6)),
 oO 6 (.mv (.t 34)),
 oO 7 (.mv (.c (.bool false)))])
 (.ret)))
 (.skip)))
 (.seq (.reg [oO 35 (.mv (.t 0)),
 oO 36 (.nchk (.t 35)),
 oO 37 (.fad 1 (.t 36)),
 oO 38 (.load1 (.t 37)),
 oO 39 (.mv (.t 8)),
 oO 40 (.iad 2 (.t 38) (.t 39)),
 oO 41 (.fad 1 (.t 40)),
 oO 42 (.load1 (.t 41)),
 oO 6 (.mv (.t 42))])
 (.seq (.reg [oO 43 (.mv (.t 0)),
 oO 44 (.nchk (.t 43)),
 oO 45 (.fad 1 (.t 44)),
 oO 46 (.load1 (.t 45)),
 oO 47 (.mv (.t 8)),
 oO 48 (.mv (.t 2)),
 oO 49 (.iad 2 (.t 46) (.t 47)),
 oO 50 (.fad 1 (.t 49)),
 ⟨none, .store 1 (.t 50) (.t 48), none, none, false⟩])
 (.seq (.reg [oO 51 (.mv (.t 6)),
 oO 6 (.mv (.t 51)),
 oO 7 (.mv (.c (.bool true)))])
 (.ret)))))))⟩

/- (*redpencil/omap.Map[string, []int]).All -/
def a23 : AFn := ⟨11, [.t 2],
  .seq (.reg [oO 2 (.mv (.c .nilf))])
 (.seq (.seq (.reg [oO 3 (.mv (.t 0)),
 oO 4 (.call 46 false [(.t 3)])])
 (.cond (.t 4) (.seq (.reg [oO 5 (.call 48 false [(.c .nils)]),
 oO 2 (.mv (.t 5))])
 (.ret))
 (.skip)))
 (.seq (.reg [oO 6 (.mv (.t 0)),
 oO 7 (.nchk (.t 6)),
 oO 8 (.fad 1 (.t 7)),
 oO 9 (.load1 (.t 8)),
 oO 10 (.call 48 false [(.t 9)]),
 oO 2 (.mv (.t 10))])
 (.ret)))⟩

/- (*redpencil/omap.Map[string, []int]).Len -/
def a24 : AFn := ⟨10, [.t 2],
  .seq (.reg [oO 2 (.mv (.c (.int .i64 0)))])
 (.seq (.seq (.reg [oO 3 (.mv (.t 0)),
 oO 4 (.call 46 false [(.t 3)])])
 (.cond (.t 4) (.seq (.reg [oO 2 (.mv (.c (.int .i64 0)))])
 (.ret))
 (.skip)))
 (.seq (.reg [oO 5 (.mv (.t 0)),
 oO 6 (.nchk (.t 5)),
 oO 7 (.fad 1 (.t 6)),
 oO 8 (.load1 (.t 7)),
 oO 9 (.len .sl (.t 8)),
 oO 2 (.mv (.t 9))])
 (.ret)))⟩

end Go.AM
end
/-
  They are what the compiler makes of the loaded program. Printed by a program of this project.
-/
section
namespace Go.AM
open Go Go.Proofs

theorem c3 : cfn Try.prog Try.f3 = some a3 := by kernel_rfl
theorem k3 : callable Try.prog 3 = true := by kernel_rfl
theorem c4 : cfn Try.prog Try.f4 = some a4 := by kernel_rfl
theorem k4 : callable Try.prog 4 = true := by kernel_rfl
theorem c5 : cfn Try.prog Try.f5 = some a5 := by kernel_rfl
theorem k5 : callable Try.prog 5 = true := by kernel_rfl
theorem k6 : callable Try.prog 6 = true := by kernel_rfl
theorem c7 : cfn Try.prog Try.f7 = some a7 := by kernel_rfl
theorem k7 : callable Try.prog 7 = true := by kernel_rfl
theorem c8 : cfn Try.prog Try.f8 = some a8 := by kernel_rfl
theorem c9 : cfn Try.prog Try.f9 = some a9 := by kernel_rfl
theorem k9 : callable Try.prog 9 = true := by kernel_rfl
theorem c10 : cfn Try.prog Try.f10 = some a10 := by kernel_rfl
theorem k10 : callable Try.prog 10 = true := by kernel_rfl
theorem c11 : cfn Try.prog Try.f11 = some a11 := by kernel_rfl
theorem k11 : callable Try.prog 11 = true := by kernel_rfl
theorem c13 : cfn Try.prog Try.f13 = some a13 := by kernel_rfl
theorem k13 : callable Try.prog 13 = true := by kernel_rfl
theorem c14 : cfn Try.prog Try.f14 = some a14 := by kernel_rfl
theorem k14 : callable Try.prog 14 = true := by kernel_rfl
theorem c15 : cfn Try.prog Try.f15 = some a15 := by kernel_rfl
theorem k15 : callable Try.prog 15 = true := by kernel_rfl
theorem c17 : cfn Try.prog Try.f17 = some a17 := by kernel_rfl
theorem k17 : callable Try.prog 17 = true := by kernel_rfl
theorem c19 : cfn Try.prog Try.f19 = some a19 := by kernel_rfl
theorem k19 : callable Try.prog 19 = true := by kernel_rfl
theorem c20 : cfn Try.prog Try.f20 = some a20 := by kernel_rfl
theorem k20 : callable Try.prog 20 = true := by kernel_rfl
theorem c21 : cfn Try.prog Try.f21 = some a21 := by kernel_rfl
theorem k21 : callable Try.prog 21 = true := by kernel_rfl
theorem c22 : cfn Try.prog Try.f22 = some a22 := by kernel_rfl
theorem k22 : callable Try.prog 22 = true := by kernel_rfl
theorem c23 : cfn Try.prog Try.f23 = some a23 := by kernel_rfl
theorem k23 : callable Try.prog 23 = true := by kernel_rfl
theorem c24 : cfn Try.prog Try.f24 = some a24 := by kernel_rfl
theorem k24 : callable Try.prog 24 = true := by kernel_rfl


end Go.AM
end
/-
  The functions of this seat as the abstract machine runs them. Printed by a program of this project.
-/
section
set_option maxRecDepth 100000
namespace Go.AM
open Go

/- (*redpencil/omap.Map[int, string]).Len -/
def a25 : AFn := ⟨10, [.t 2],
  .seq (.reg [oO 2 (.mv (.c (.int .i64 0)))])
 (.seq (.seq (.reg [oO 3 (.mv (.t 0)),
 oO 4 (.call 39 false [(.t 3)])])
 (.cond (.t 4) (.seq (.reg [oO 2 (.mv (.c (.int .i64 0)))])
 (.ret))
 (.skip)))
 (.seq (.reg [oO 5 (.mv (.t 0)),
 oO 6 (.nchk (.t 5)),
 oO 7 (.fad 1 (.t 6)),
 oO 8 (.load1 (.t 7)),
 oO 9 (.len .sl (.t 8)),
 oO 2 (.mv (.t 9))])
 (.ret)))⟩

/- (*redpencil/omap.Map[int, string]).Rank -/
def a26 : AFn := ⟨14, [.t 4],
  .seq (.reg [oO 4 (.mv (.c (.int .i64 0)))])
 (.seq (.reg [oO 8 (.mv (.t 0)),
 oO 9 (.mv (.t 1)),
 oO 10 (.call 40 false [(.t 8), (.t 9)]),
 oO 7 (.mv (.t 10)),
 oO 11 (.ext (.t 7) 0),
 oO 12 (.ext (.t 7) 1),
 oO 5 (.mv (.t 11)),
 oO 6 (.mv (.t 12))])
 (.seq (.reg [oO 13 (.mv (.t 5)),
 oO 4 (.mv (.t 13))])
 (.ret)))⟩

/- redpencil/redpencillaw08.at -/
def a27 : AFn := ⟨25, [.t 8],
  .seq (.reg [oO 6 (.box 2 (.t 2)),
 oO 8 (.mv (.c (.bool false)))])
 (.seq (.reg [oO 13 (.mv (.t 0)),
 oO 14 (.mv (.t 1)),
 oO 15 (.call 49 false [(.t 13), (.t 14)]),
 oO 12 (.mv (.t 15)),
 oO 16 (.ext (.t 12) 0),
 oO 17 (.ext (.t 12) 1),
 oO 18 (.ext (.t 12) 2),
 oO 9 (.mv (.t 16)),
 oO 10 (.mv (.t 17)),
 oO 11 (.mv (.t 18))])
 (.seq (.reg [oO 19 (.mv (.t 9)),
 oO 20 (.mv (.t 10)),
 oO 21 (.mv (.t 11)),
 oO 22 (.loadn 2 (.t 6)),
 oO 23 (.mv (.t 3)),
 oO 24 (.call 50 false [(.t 19), (.t 20), (.t 21), (.t 22), (.t 23)]),
 oO 8 (.mv (.t 24))])
 (.ret)))⟩

/- redpencil/redpencillaw08.gets -/
def a28 : AFn := ⟨25, [.t 8],
  .seq (.reg [oO 8 (.mv (.c (.bool false)))])
 (.seq (.reg [oO 12 (.mv (.t 0)),
 oO 13 (.mv (.t 1)),
 oO 14 (.call 51 false [(.t 12), (.t 13)]),
 oO 11 (.mv (.t 14)),
 oO 15 (.ext (.t 11) 0),
 oO 16 (.ext (.t 11) 1),
 oO 9 (.mv (.t 15)),
 oO 10 (.mv (.t 16))])
 (.seq (.reg [oO 17 (.mv (.t 9)),
 oO 18 (.mv (.t 2)),
 oO 19 (.bin .eql .no (.t 17) (.t 18)),
 oO 20 (.mv (.t 19)),
 oG 21 (.mv (.t 10)) 20 true,
 oG 22 (.mv (.t 3)) 20 true,
 oG 23 (.bin .eql .bo (.t 21) (.t 22)) 20 true,
 oO 24 (.pick (.t 20) (.t 23) (.c (.bool false))),
 oO 8 (.mv (.t 24))])
 (.ret)))⟩

/- (redpencil/redpencilref08.Map).Get -/
/- redpencil/redpencillaw08.sets -/
def a30 : AFn := ⟨28, [.t 10],
  .seq (.reg [oO 10 (.mv (.c (.bool false)))])
 (.seq (.reg [oO 14 (.mv (.t 0)),
 oO 15 (.mv (.t 1)),
 oO 16 (.mv (.t 2)),
 oO 17 (.call 11 false [(.t 14), (.t 15), (.t 16)]),
 oO 13 (.mv (.t 17)),
 oO 18 (.ext (.t 13) 0),
 oO 19 (.ext (.t 13) 1),
 oO 11 (.mv (.t 18)),
 oO 12 (.mv (.t 19))])
 (.seq (.reg [oO 20 (.mv (.t 11)),
 oO 21 (.mv (.t 3)),
 oO 22 (.bin .eql .no (.t 20) (.t 21)),
 oO 23 (.mv (.t 22)),
 oG 24 (.mv (.t 12)) 23 true,
 oG 25 (.mv (.t 4)) 23 true,
 oG 26 (.bin .eql .bo (.t 24) (.t 25)) 23 true,
 oO 27 (.pick (.t 23) (.t 26) (.c (.bool false))),
 oO 10 (.mv (.t 27))])
 (.ret)))⟩

/- (redpencil/redpencilref08.Map).Delete -/
/- (*redpencil/omap.Map[int, string]).Copy -/
/- redpencil/redpencillaw08.looks -/
/- redpencil/redpencillaw08.floor -/
def a34 : AFn := ⟨25, [.t 8],
  .seq (.reg [oO 6 (.box 2 (.t 2)),
 oO 8 (.mv (.c (.bool false)))])
 (.seq (.reg [oO 13 (.mv (.t 0)),
 oO 14 (.mv (.t 1)),
 oO 15 (.call 55 false [(.t 13), (.t 14)]),
 oO 12 (.mv (.t 15)),
 oO 16 (.ext (.t 12) 0),
 oO 17 (.ext (.t 12) 1),
 oO 18 (.ext (.t 12) 2),
 oO 9 (.mv (.t 16)),
 oO 10 (.mv (.t 17)),
 oO 11 (.mv (.t 18))])
 (.seq (.reg [oO 19 (.mv (.t 9)),
 oO 20 (.mv (.t 10)),
 oO 21 (.mv (.t 11)),
 oO 22 (.loadn 2 (.t 6)),
 oO 23 (.mv (.t 3)),
 oO 24 (.call 50 false [(.t 19), (.t 20), (.t 21), (.t 22), (.t 23)]),
 oO 8 (.mv (.t 24))])
 (.ret)))⟩

/- redpencil/redpencillaw08.ceil -/
def a35 : AFn := ⟨25, [.t 8],
  .seq (.reg [oO 6 (.box 2 (.t 2)),
 oO 8 (.mv (.c (.bool false)))])
 (.seq (.reg [oO 13 (.mv (.t 0)),
 oO 14 (.mv (.t 1)),
 oO 15 (.call 56 false [(.t 13), (.t 14)]),
 oO 12 (.mv (.t 15)),
 oO 16 (.ext (.t 12) 0),
 oO 17 (.ext (.t 12) 1),
 oO 18 (.ext (.t 12) 2),
 oO 9 (.mv (.t 16)),
 oO 10 (.mv (.t 17)),
 oO 11 (.mv (.t 18))])
 (.seq (.reg [oO 19 (.mv (.t 9)),
 oO 20 (.mv (.t 10)),
 oO 21 (.mv (.t 11)),
 oO 22 (.loadn 2 (.t 6)),
 oO 23 (.mv (.t 3)),
 oO 24 (.call 50 false [(.t 19), (.t 20), (.t 21), (.t 22), (.t 23)]),
 oO 8 (.mv (.t 24))])
 (.ret)))⟩

/- redpencil/omap.New[int,string] -/
def a36 : AFn := ⟨8, [.t 2],
  .seq (.reg [oO 2 (.mv (.c .nilp))])
 (.seq (.seq (.reg [oO 3 (.mv (.t 0)),
 oO 4 (.bin .eql .nf (.t 3) (.c .nilf))])
 (.cond (.t 4) (.seq (.reg [oO 2 (.mv (.c .nilp))])
 (.ret))
 (.skip)))
 (.seq (.reg [oO 5 (.mv (.t 0)),
 oO 6 (.build [.nilf, .nils] [(0, 1, (.t 5))]),
 oO 7 (.box 2 (.t 6)),
 oO 2 (.mv (.t 7))])
 (.ret)))⟩

/- redpencil/redpencillaw08.down -/
/- redpencil/redpencillaw08.up -/
def a38 : AFn := ⟨11, [.t 4],
  .seq (.reg [oO 4 (.mv (.c (.int .i64 0)))])
 (.seq (.seq (.reg [oO 5 (.mv (.t 0)),
 oO 6 (.mv (.t 1)),
 oO 7 (.bin .lss .no (.t 5) (.t 6))])
 (.cond (.t 7) (.seq (.reg [oO 4 (.mv (.c (.int .i64 (-1))))])
 (.ret))
 (.skip)))
 (.seq (.seq (.reg [oO 8 (.mv (.t 0)),
 oO 9 (.mv (.t 1)),
 oO 10 (.bin .gtr .no (.t 8) (.t 9))])
 (.cond (.t 10) (.seq (.reg [oO 4 (.mv (.c (.int .i64 1)))])
 (.ret))
 (.skip)))
 (.seq (.reg [oO 4 (.mv (.c (.int .i64 0)))])
 (.ret))))⟩

/- (*redpencil/omap.Map[int, string]).zero -/
def a39 : AFn := ⟨12, [.t 2],
  .seq (.reg [oO 2 (.mv (.c (.bool false)))])
 (.seq (.reg [oO 3 (.mv (.t 0)),
 oO 4 (.bin .eql .np (.t 3) (.c .nilp)),
 oO 5 (.mv (.t 4)),
 oG 6 (.mv (.t 0)) 5 false,
 oG 7 (.nchk (.t 6)) 5 false,
 oG 8 (.fad 0 (.t 7)) 5 false,
 oG 9 (.load1 (.t 8)) 5 false,
 oG 10 (.bin .eql .nf (.t 9) (.c .nilf)) 5 false,
 oO 11 (.pick (.t 5) (.c (.bool true)) (.t 10)),
 oO 2 (.mv (.t 11))])
 (.ret))⟩

/- (*redpencil/omap.Map[int, string]).find -/
def a40 : AFn := ⟨17, [.t 4, .t 5],
  .seq (.reg [oO 2 (.box 1 (.t 0)),
 oO 4 (.mv (.c (.int .i64 0))),
 oO 5 (.mv (.c (.bool false)))])
 (.seq (.seq (.reg [oO 6 (.load1 (.t 2)),
 oO 7 (.call 39 false [(.t 6)])])
 (.cond (.t 7) (.seq (.reg [oO 4 (.mv (.c (.int .i64 0))),
 oO 5 (.mv (.c (.bool false)))])
 (.ret))
 (.skip)))
 (.seq (.reg [oO 8 (.load1 (.t 2)),
 oO 9 (.nchk (.t 8)),
 oO 10 (.fad 1 (.t 9)),
 oO 11 (.load1 (.t 10)),
 oO 12 (.mv (.t 1)),
 oO 13 (.mkfn 58 [(.t 2)]),
 oO 14 (.call 57 false [(.t 11), (.t 12), (.t 13)]),
 oO 15 (.ext (.t 14) 0),
 oO 16 (.ext (.t 14) 1),
 oO 4 (.mv (.t 15)),
 oO 5 (.mv (.t 16))])
 (.ret)))⟩

/- slices.Insert[[]redpencil/omap.entry[int, string],redpencil/omap.entry[int, string]] -/
def a41 : AFn := ⟨95, [.t 6],
  .seq (.reg [oO 6 (.mv (.c .nils))])
 (.seq (.reg [oO 10 (.mv (.t 0)),
 oO 11 (.mv (.t 1)),
 oO 12 (.slc 2 (.t 10) (some (.t 11)) none none)])
 (.seq (.reg [oO 13 (.mv (.t 2)),
 oO 14 (.len .sl (.t 13)),
 oO 7 (.mv (.t 14))])
 (.seq (.seq (.reg [oO 15 (.mv (.t 7)),
 oO 16 (.bin .eql .no (.t 15) (.c (.int .i64 0)))])
 (.cond (.t 16) (.seq (.reg [oO 17 (.mv (.t 0)),
 oO 6 (.mv (.t 17))])
 (.ret))
 (.skip)))
 (.seq (.reg [oO 18 (.mv (.t 0)),
 oO 19 (.len .sl (.t 18)),
 oO 8 (.mv (.t 19))])
 (.seq (.seq (.reg [oO 20 (.mv (.t 1)),
 oO 21 (.mv (.t 8)),
 oO 22 (.bin .eql .no (.t 20) (.t 21))])
 (.cond (.t 22) (.seq (.reg [oO 23 (.mv (.t 0)),
 oO 24 (.mv (.t 2)),
 oO 25 (.app 2 24 [(.int .i64 0), (.str ⟨#[]⟩)] (.t 23) (.t 24)),
 oO 6 (.mv (.t 25))])
 (.ret))
 (.skip)))
 (.seq (.seq (.reg [oO 26 (.mv (.t 8)),
 oO 27 (.mv (.t 7)),
 oO 28 (.bin .add .no (.t 26) (.t 27)),
 oO 29 (.mv (.t 0)),
 oO 30 (.cap (.t 29)),
 oO 31 (.bin .gtr .no (.t 28) (.t 30))])
 (.cond (.t 31) (.seq (.reg [oO 32 (.mv (.t 0)),
 oO 33 (.mv (.t 1)),
 oO 34 (.slc 2 (.t 32) none (some (.t 33)) none),
 oO 35 (.mv (.t 8)),
 oO 36 (.mv (.t 7)),
 oO 37 (.bin .add .no (.t 35) (.t 36)),
 oO 38 (.mv (.t 1)),
 oO 39 (.bin .sub .no (.t 37) (.t 38)),
 oO 40 (.appz 2 24 [(.int .i64 0), (.str ⟨#[]⟩)] (.t 34) (.t 39)),
 oO 9 (.mv (.t 40))])
 (.seq (.reg [oO 41 (.mv (.t 9)),
 oO 42 (.mv (.t 1)),
 oO 43 (.slc 2 (.t 41) (some (.t 42)) none none),
 oO 44 (.mv (.t 2)),
 oO 45 (.copy 2 (.t 43) (.t 44))])
 (.seq (.regd 0 [oO 46 (.mv (.t 9)),
 oO 47 (.mv (.t 1)),
 oO 48 (.mv (.t 7)),
 oO 49 (.bin .add .no (.t 47) (.t 48)),
 oO 50 (.slc 2 (.t 46) (some (.t 49)) none none),
 oO 51 (.mv (.t 0)),
 oO 52 (.mv (.t 1)),
 oO 53 (.slc 2 (.t 51) (some (.t 52)) none none),
 oO 54 (.copy 2 (.t 50) (.t 53))])
 (.seq (.reg [oO 55 (.mv (.t 9)),
 oO 6 (.mv (.t 55))])
 (.ret)))))
 (.skip)))
 (.seq (.reg [oO 56 (.mv (.t 0)),
 oO 57 (.mv (.t 8)),
 oO 58 (.mv (.t 7)),
 oO 59 (.bin .add .no (.t 57) (.t 58)),
 oO 60 (.slc 2 (.t 56) none (some (.t 59)) none),
 oO 0 (.mv (.t 60))])
 (.seq (.seq (.reg [oO 61 (.mv (.t 2)),
 oO 62 (.mv (.t 0)),
 oO 63 (.mv (.t 1)),
 oO 64 (.mv (.t 7)),
 oO 65 (.bin .add .no (.t 63) (.t 64)),
 oO 66 (.slc 2 (.t 62) (some (.t 65)) none none),
 oO 67 (.ovl (.t 61) (.t 66)),
 oO 68 (.un .not (.t 67))])
 (.cond (.t 68) (.seq (.regd 0 [oO 69 (.mv (.t 0)),
 oO 70 (.mv (.t 1)),
 oO 71 (.mv (.t 7)),
 oO 72 (.bin .add .no (.t 70) (.t 71)),
 oO 73 (.slc 2 (.t 69) (some (.t 72)) none none),
 oO 74 (.mv (.t 0)),
 oO 75 (.mv (.t 1)),
 oO 76 (.slc 2 (.t 74) (some (.t 75)) none none),
 oO 77 (.copy 2 (.t 73) (.t 76))])
 (.seq (.reg [oO 78 (.mv (.t 0)),
 oO 79 (.mv (.t 1)),
 oO 80 (.slc 2 (.t 78) (some (.t 79)) none none),
 oO 81 (.mv (.t 2)),
 oO 82 (.copy 2 (.t 80) (.t 81))])
 (.seq (.reg [oO 83 (.mv (.t 0)),
 oO 6 (.mv (.t 83))])
 (.ret))))
 (.skip)))
 (.seq (.reg [oO 84 (.mv (.t 0)),
 oO 85 (.mv (.t 8)),
 oO 86 (.slc 2 (.t 84) (some (.t 85)) none none),
 oO 87 (.mv (.t 2)),
 oO 88 (.copy 2 (.t 86) (.t 87))])
 (.seq (.reg [oO 89 (.mv (.t 0)),
 oO 90 (.mv (.t 1)),
 oO 91 (.slc 2 (.t 89) (some (.t 90)) none none),
 oO 92 (.mv (.t 7)),
 oO 93 (.call 60 false [(.t 91), (.t 92)])])
 (.seq (.reg [oO 94 (.mv (.t 0)),
 oO 6 (.mv (.t 94))])
 (.ret))))))))))))⟩

/- (redpencil/redpencilref08.Map).Rank -/
/- redpencil/omap.over[int,string] -/
def a43 : AFn := ⟨6, [.t 2],
  .seq (.reg [oO 1 (.box 1 (.t 0)),
 oO 2 (.mv (.c .nilf))])
 (.seq (.reg [oO 3 (.load1 (.t 1)),
 oO 4 (.call 62 false [(.t 3)]),
 ⟨none, .store 1 (.t 1) (.t 4), none, none, false⟩])
 (.seq (.reg [oO 5 (.mkfn 63 [(.t 1)]),
 oO 2 (.mv (.t 5))])
 (.ret)))⟩

/- slices.Delete[[]redpencil/omap.entry[int, string],redpencil/omap.entry[int, string]] -/
def a44 : AFn := ⟨33, [.t 6],
  .seq (.reg [oO 6 (.mv (.c .nils))])
 (.seq (.reg [oO 8 (.mv (.t 0)),
 oO 9 (.mv (.t 1)),
 oO 10 (.mv (.t 2)),
 oO 11 (.mv (.t 0)),
 oO 12 (.len .sl (.t 11)),
 oO 13 (.slc 2 (.t 8) (some (.t 9)) (some (.t 10)) (some (.t 12)))])
 (.seq (.seq (.reg [oO 14 (.mv (.t 1)),
 oO 15 (.mv (.t 2)),
 oO 16 (.bin .eql .no (.t 14) (.t 15))])
 (.cond (.t 16) (.seq (.reg [oO 17 (.mv (.t 0)),
 oO 6 (.mv (.t 17))])
 (.ret))
 (.skip)))
 (.seq (.reg [oO 18 (.mv (.t 0)),
 oO 19 (.len .sl (.t 18)),
 oO 7 (.mv (.t 19))])
 (.seq (.regd 0 [oO 20 (.mv (.t 0)),
 oO 21 (.mv (.t 1)),
 oO 22 (.slc 2 (.t 20) none (some (.t 21)) none),
 oO 23 (.mv (.t 0)),
 oO 24 (.mv (.t 2)),
 oO 25 (.slc 2 (.t 23) (some (.t 24)) none none),
 oO 26 (.app 2 24 [(.int .i64 0), (.str ⟨#[]⟩)] (.t 22) (.t 25)),
 oO 0 (.mv (.t 26))])
 (.seq (.reg [oO 27 (.mv (.t 0)),
 oO 28 (.mv (.t 0)),
 oO 29 (.len .sl (.t 28)),
 oO 30 (.mv (.t 7)),
 oO 31 (.slc 2 (.t 27) (some (.t 29)) (some (.t 30)) none),
 ⟨none, .clr [(.int .i64 0), (.str ⟨#[]⟩)] (.t 31), none, none, false⟩])
 (.seq (.reg [oO 32 (.mv (.t 0)),
 oO 6 (.mv (.t 32))])
 (.ret)))))))⟩

/- (*redpencil/omap.Map[string, []int]).find -/
def a45 : AFn := ⟨17, [.t 4, .t 5],
  .seq (.reg [oO 2 (.box 1 (.t 0)),
 oO 4 (.mv (.c (.int .i64 0))),
 oO 5 (.mv (.c (.bool false)))])
 (.seq (.seq (.reg [oO 6 (.load1 (.t 2)),
 oO 7 (.call 46 false [(.t 6)])])
 (.cond (.t 7) (.seq (.reg [oO 4 (.mv (.c (.int .i64 0))),
 oO 5 (.mv (.c (.bool false)))])
 (.ret))
 (.skip)))
 (.seq (.reg [oO 8 (.load1 (.t 2)),
 oO 9 (.nchk (.t 8)),
 oO 10 (.fad 1 (.t 9)),
 oO 11 (.load1 (.t 10)),
 oO 12 (.mv (.t 1)),
 oO 13 (.mkfn 65 [(.t 2)]),
 oO 14 (.call 64 false [(.t 11), (.t 12), (.t 13)]),
 oO 15 (.ext (.t 14) 0),
 oO 16 (.ext (.t 14) 1),
 oO 4 (.mv (.t 15)),
 oO 5 (.mv (.t 16))])
 (.ret)))⟩

/- (*redpencil/omap.Map[string, []int]).zero -/
def a46 : AFn := ⟨12, [.t 2],
  .seq (.reg [oO 2 (.mv (.c (.bool false)))])
 (.seq (.reg [oO 3 (.mv (.t 0)),
 oO 4 (.bin .eql .np (.t 3) (.c .nilp)),
 oO 5 (.mv (.t 4)),
 oG 6 (.mv (.t 0)) 5 false,
 oG 7 (.nchk (.t 6)) 5 false,
 oG 8 (.fad 0 (.t 7)) 5 false,
 oG 9 (.load1 (.t 8)) 5 false,
 oG 10 (.bin .eql .nf (.t 9) (.c .nilf)) 5 false,
 oO 11 (.pick (.t 5) (.c (.bool true)) (.t 10)),
 oO 2 (.mv (.t 11))])
 (.ret))⟩

/- slices.Insert[[]redpencil/omap.entry[string, []int],redpencil/omap.entry[string, []int]] -/
def a47 : AFn := ⟨95, [.t 6],
  .seq (.reg [oO 6 (.mv (.c .nils))])
 (.seq (.reg [oO 10 (.mv (.t 0)),
 oO 11 (.mv (.t 1)),
 oO 12 (.slc 2 (.t 10) (some (.t 11)) none none)])
 (.seq (.reg [oO 13 (.mv (.t 2)),
 oO 14 (.len .sl (.t 13)),
 oO 7 (.mv (.t 14))])
 (.seq (.seq (.reg [oO 15 (.mv (.t 7)),
 oO 16 (.bin .eql .no (.t 15) (.c (.int .i64 0)))])
 (.cond (.t 16) (.seq (.reg [oO 17 (.mv (.t 0)),
 oO 6 (.mv (.t 17))])
 (.ret))
 (.skip)))
 (.seq (.reg [oO 18 (.mv (.t 0)),
 oO 19 (.len .sl (.t 18)),
 oO 8 (.mv (.t 19))])
 (.seq (.seq (.reg [oO 20 (.mv (.t 1)),
 oO 21 (.mv (.t 8)),
 oO 22 (.bin .eql .no (.t 20) (.t 21))])
 (.cond (.t 22) (.seq (.reg [oO 23 (.mv (.t 0)),
 oO 24 (.mv (.t 2)),
 oO 25 (.app 2 40 [(.str ⟨#[]⟩), .nils] (.t 23) (.t 24)),
 oO 6 (.mv (.t 25))])
 (.ret))
 (.skip)))
 (.seq (.seq (.reg [oO 26 (.mv (.t 8)),
 oO 27 (.mv (.t 7)),
 oO 28 (.bin .add .no (.t 26) (.t 27)),
 oO 29 (.mv (.t 0)),
 oO 30 (.cap (.t 29)),
 oO 31 (.bin .gtr .no (.t 28) (.t 30))])
 (.cond (.t 31) (.seq (.reg [oO 32 (.mv (.t 0)),
 oO 33 (.mv (.t 1)),
 oO 34 (.slc 2 (.t 32) none (some (.t 33)) none),
 oO 35 (.mv (.t 8)),
 oO 36 (.mv (.t 7)),
 oO 37 (.bin .add .no (.t 35) (.t 36)),
 oO 38 (.mv (.t 1)),
 oO 39 (.bin .sub .no (.t 37) (.t 38)),
 oO 40 (.appz 2 40 [(.str ⟨#[]⟩), .nils] (.t 34) (.t 39)),
 oO 9 (.mv (.t 40))])
 (.seq (.reg [oO 41 (.mv (.t 9)),
 oO 42 (.mv (.t 1)),
 oO 43 (.slc 2 (.t 41) (some (.t 42)) none none),
 oO 44 (.mv (.t 2)),
 oO 45 (.copy 2 (.t 43) (.t 44))])
 (.seq (.regd 0 [oO 46 (.mv (.t 9)),
 oO 47 (.mv (.t 1)),
 oO 48 (.mv (.t 7)),
 oO 49 (.bin .add .no (.t 47) (.t 48)),
 oO 50 (.slc 2 (.t 46) (some (.t 49)) none none),
 oO 51 (.mv (.t 0)),
 oO 52 (.mv (.t 1)),
 oO 53 (.slc 2 (.t 51) (some (.t 52)) none none),
 oO 54 (.copy 2 (.t 50) (.t 53))])
 (.seq (.reg [oO 55 (.mv (.t 9)),
 oO 6 (.mv (.t 55))])
 (.ret)))))
 (.skip)))
 (.seq (.reg [oO 56 (.mv (.t 0)),
 oO 57 (.mv (.t 8)),
 oO 58 (.mv (.t 7)),
 oO 59 (.bin .add .no (.t 57) (.t 58)),
 oO 60 (.slc 2 (.t 56) none (some (.t 59)) none),
 oO 0 (.mv (.t 60))])
 (.seq (.seq (.reg [oO 61 (.mv (.t 2)),
 oO 62 (.mv (.t 0)),
 oO 63 (.mv (.t 1)),
 oO 64 (.mv (.t 7)),
 oO 65 (.bin .add .no (.t 63) (.t 64)),
 oO 66 (.slc 2 (.t 62) (some (.t 65)) none none),
 oO 67 (.ovl (.t 61) (.t 66)),
 oO 68 (.un .not (.t 67))])
 (.cond (.t 68) (.seq (.regd 0 [oO 69 (.mv (.t 0)),
 oO 70 (.mv (.t 1)),
 oO 71 (.mv (.t 7)),
 oO 72 (.bin .add .no (.t 70) (.t 71)),
 oO 73 (.slc 2 (.t 69) (some (.t 72)) none none),
 oO 74 (.mv (.t 0)),
 oO 75 (.mv (.t 1)),
 oO 76 (.slc 2 (.t 74) (some (.t 75)) none none),
 oO 77 (.copy 2 (.t 73) (.t 76))])
 (.seq (.reg [oO 78 (.mv (.t 0)),
 oO 79 (.mv (.t 1)),
 oO 80 (.slc 2 (.t 78) (some (.t 79)) none none),
 oO 81 (.mv (.t 2)),
 oO 82 (.copy 2 (.t 80) (.t 81))])
 (.seq (.reg [oO 83 (.mv (.t 0)),
 oO 6 (.mv (.t 83))])
 (.ret))))
 (.skip)))
 (.seq (.reg [oO 84 (.mv (.t 0)),
 oO 85 (.mv (.t 8)),
 oO 86 (.slc 2 (.t 84) (some (.t 85)) none none),
 oO 87 (.mv (.t 2)),
 oO 88 (.copy 2 (.t 86) (.t 87))])
 (.seq (.reg [oO 89 (.mv (.t 0)),
 oO 90 (.mv (.t 1)),
 oO 91 (.slc 2 (.t 89) (some (.t 90)) none none),
 oO 92 (.mv (.t 7)),
 oO 93 (.call 67 false [(.t 91), (.t 92)])])
 (.seq (.reg [oO 94 (.mv (.t 0)),
 oO 6 (.mv (.t 94))])
 (.ret))))))))))))⟩

/- redpencil/omap.over[string,[]int] -/
def a48 : AFn := ⟨6, [.t 2],
  .seq (.reg [oO 1 (.box 1 (.t 0)),
 oO 2 (.mv (.c .nilf))])
 (.seq (.reg [oO 3 (.load1 (.t 1)),
 oO 4 (.call 68 false [(.t 3)]),
 ⟨none, .store 1 (.t 1) (.t 4), none, none, false⟩])
 (.seq (.reg [oO 5 (.mkfn 69 [(.t 1)]),
 oO 2 (.mv (.t 5))])
 (.ret)))⟩

/- (*redpencil/omap.Map[int, string]).At -/
def a49 : AFn := ⟨33, [.t 4, .t 5, .t 6],
  .seq (.reg [oO 4 (.mv (.c (.int .i64 0))),
 oO 5 (.mv (.c (.str ⟨#[]⟩))),
 oO 6 (.mv (.c (.bool false)))])
 (.seq (.seq (.reg [oO 7 (.mv (.t 1)),
 oO 8 (.bin .lss .no (.t 7) (.c (.int .i64 0))),
 oO 9 (.mv (.t 8)),
 oG 10 (.mv (.t 1)) 9 false,
 oG 11 (.mv (.t 0)) 9 false,
 oG 12 (.call 25 false [(.t 11)]) 9 false,
 oG 13 (.bin .geq .no (.t 10) (.t 12)) 9 false,
 oO 14 (.pick (.t 9) (.c (.bool true)) (.t 13))])
 (.cond (.t 14) (.seq (.reg [oO 15 (.mv (.t 4)),
 oO 16 (.mv (.t 5)),
 oO 4 (.mv (.t 15)),
 oO 5 (.mv (.t 16)),
 oO 6 (.mv (.c (.bool false)))])
 (.ret))
 (.skip)))
 (.seq (.regd 0 [oO 17 (.mv (.t 0)),
 oO 18 (.nchk (.t 17)),
 oO 19 (.fad 1 (.t 18)),
 oO 20 (.load1 (.t 19)),
 oO 21 (.mv (.t 1)),
 oO 22 (.iad 2 (.t 20) (.t 21)),
 oO 23 (.fad 0 (.t 22)),
 oO 24 (.load1 (.t 23)),
 oO 25 (.mv (.t 0)),
 oO 26 (.nchk (.t 25)),
 oO 27 (.fad 1 (.t 26)),
 oO 28 (.load1 (.t 27)),
 oO 29 (.mv (.t 1)),
 oO 30 (.iad 2 (.t 28) (.t 29)),
 oO 31 (.fad 1 (.t 30)),
 oO 32 (.load1 (.t 31)),
 oO 4 (.mv (.t 24)),
 oO 5 (.mv (.t 32)),
 oO 6 (.mv (.c (.bool true)))])
 (.ret)))⟩

/- redpencil/redpencillaw08.is -/
def a50 : AFn := ⟨26, [.t 10],
  .seq (.reg [oO 8 (.box 2 (.t 3)),
 oO 10 (.mv (.c (.bool false)))])
 (.seq (.reg [oO 11 (.mv (.t 0)),
 oO 12 (.fad 0 (.t 8)),
 oO 13 (.load1 (.t 12)),
 oO 14 (.bin .eql .no (.t 11) (.t 13)),
 oO 15 (.mv (.t 14)),
 oG 16 (.mv (.t 1)) 15 true,
 oG 17 (.fad 1 (.t 8)) 15 true,
 oG 18 (.load1 (.t 17)) 15 true,
 oG 19 (.bin .eql .no (.t 16) (.t 18)) 15 true,
 oO 20 (.pick (.t 15) (.t 19) (.c (.bool false))),
 oO 21 (.mv (.t 20)),
 oG 22 (.mv (.t 2)) 21 true,
 oG 23 (.mv (.t 4)) 21 true,
 oG 24 (.bin .eql .bo (.t 22) (.t 23)) 21 true,
 oO 25 (.pick (.t 21) (.t 24) (.c (.bool false))),
 oO 10 (.mv (.t 25))])
 (.ret))⟩

/- (*redpencil/omap.Map[int, string]).Get -/
def a51 : AFn := ⟨24, [.t 4, .t 5],
  .seq (.reg [oO 4 (.mv (.c (.str ⟨#[]⟩))),
 oO 5 (.mv (.c (.bool false)))])
 (.seq (.reg [oO 8 (.mv (.t 0)),
 oO 9 (.mv (.t 1)),
 oO 10 (.call 40 false [(.t 8), (.t 9)]),
 oO 7 (.mv (.t 10)),
 oO 11 (.ext (.t 7) 0),
 oO 12 (.ext (.t 7) 1),
 oO 6 (.mv (.t 11)),
 oO 5 (.mv (.t 12))])
 (.seq (.seq (.reg [oO 13 (.mv (.t 5)),
 oO 14 (.un .not (.t 13))])
 (.cond (.t 14) (.seq (.reg [oO 15 (.mv (.t 4)),
 oO 4 (.mv (.t 15)),
 oO 5 (.mv (.c (.bool false)))])
 (.ret))
 (.skip)))
 (.seq (.reg [oO 16 (.mv (.t 0)),
 oO 17 (.nchk (.t 16)),
 oO 18 (.fad 1 (.t 17)),
 oO 19 (.load1 (.t 18)),
 oO 20 (.mv (.t 6)),
 oO 21 (.iad 2 (.t 19) (.t 20)),
 oO 22 (.fad 1 (.t 21)),
 oO 23 (.load1 (.t 22)),
 oO 4 (.mv (.t 23)),
 oO 5 (.mv (.c (.bool true)))])
 (.ret))))⟩

/- (redpencil/redpencilref08.Map).At -/
/- (redpencil/redpencilref08.Map).Floor -/
/- (redpencil/redpencilref08.Map).Ceil -/
/- (*redpencil/omap.Map[int, string]).Floor -/
def a55 : AFn := ⟨25, [.t 4, .t 5, .t 6],
  .seq (.reg [oO 4 (.mv (.c (.int .i64 0))),
 oO 5 (.mv (.c (.str ⟨#[]⟩))),
 oO 6 (.mv (.c (.bool false)))])
 (.seq (.reg [oO 10 (.mv (.t 0)),
 oO 11 (.mv (.t 1)),
 oO 12 (.call 40 false [(.t 10), (.t 11)]),
 oO 9 (.mv (.t 12)),
 oO 13 (.ext (.t 9) 0),
 oO 14 (.ext (.t 9) 1),
 oO 7 (.mv (.t 13)),
 oO 8 (.mv (.t 14))])
 (.seq (.seq (.reg [oO 15 (.mv (.t 8)),
 oO 16 (.un .not (.t 15))])
 (.cond (.t 16) (.reg [oO 17 (.mv (.t 7)),
 oO 18 (.bin .sub .no (.t 17) (.c (.int .i64 1))),
 oO 7 (.mv (.t 18))])
 (.skip)))
 (.seq (.reg [oO 19 (.mv (.t 0)),
 oO 20 (.mv (.t 7)),
 oO 21 (.call 49 false [(.t 19), (.t 20)]),
 oO 22 (.ext (.t 21) 0),
 oO 23 (.ext (.t 21) 1),
 oO 24 (.ext (.t 21) 2),
 oO 4 (.mv (.t 22)),
 oO 5 (.mv (.t 23)),
 oO 6 (.mv (.t 24))])
 (.ret))))⟩

/- (*redpencil/omap.Map[int, string]).Ceil -/
def a56 : AFn := ⟨15, [.t 4, .t 5, .t 6],
  .seq (.reg [oO 4 (.mv (.c (.int .i64 0))),
 oO 5 (.mv (.c (.str ⟨#[]⟩))),
 oO 6 (.mv (.c (.bool false)))])
 (.seq (.reg [oO 7 (.mv (.t 0)),
 oO 8 (.mv (.t 0)),
 oO 9 (.mv (.t 1)),
 oO 10 (.call 26 false [(.t 8), (.t 9)]),
 oO 11 (.call 49 false [(.t 7), (.t 10)]),
 oO 12 (.ext (.t 11) 0),
 oO 13 (.ext (.t 11) 1),
 oO 14 (.ext (.t 11) 2),
 oO 4 (.mv (.t 12)),
 oO 5 (.mv (.t 13)),
 oO 6 (.mv (.t 14))])
 (.ret))⟩

/- slices.BinarySearchFunc[[]redpencil/omap.entry[int, string],redpencil/omap.entry[int, string],int] -/
def a57 : AFn := ⟨49, [.t 6, .t 7],
  .seq (.reg [oO 6 (.mv (.c (.int .i64 0))),
 oO 7 (.mv (.c (.bool false)))])
 (.seq (.reg [oO 12 (.mv (.t 0)),
 oO 13 (.len .sl (.t 12)),
 oO 8 (.mv (.t 13))])
 (.seq (.reg [oO 14 (.mv (.t 8)),
 oO 9 (.mv (.c (.int .i64 0))),
 oO 10 (.mv (.t 14))])
 (.seq (.block 0 (.loop (.seq (.seq (.reg [oO 15 (.mv (.t 9)),
 oO 16 (.mv (.t 10)),
 oO 17 (.bin .lss .no (.t 15) (.t 16))])
 (.cond (.t 17) (.skip)
 (.exit 0)))
 (.block 1 (.seq (.reg [oO 18 (.mv (.t 9)),
 oO 19 (.mv (.t 10)),
 oO 20 (.bin .add .no (.t 18) (.t 19)),
 oO 21 (.conv .u64 (.t 20)),
 oO 22 (.bin .shr .no (.t 21) (.c (.int .u64 1))),
 oO 23 (.conv .i64 (.t 22)),
 oO 11 (.mv (.t 23))])
 (.seq (.reg [oO 24 (.mv (.t 2)),
 oO 25 (.mv (.t 0)),
 oO 26 (.mv (.t 11)),
 oO 27 (.iad 2 (.t 25) (.t 26)),
 oO 28 (.loadn 2 (.t 27)),
 oO 29 (.mv (.t 1)),
 oO 30 (.callv (.t 24) false [(.t 28), (.t 29)]),
 oO 31 (.bin .lss .no (.t 30) (.c (.int .i64 0)))])
 (.cond (.t 31) (.reg [oO 32 (.mv (.t 11)),
 oO 33 (.bin .add .no (.t 32) (.c (.int .i64 1))),
 oO 9 (.mv (.t 33))])
 (.reg [oO 34 (.mv (.t 11)),
 oO 10 (.mv (.t 34))]))))))))
 (.seq (.reg [oO 35 (.mv (.t 9)),
 oO 36 (.mv (.t 9)),
 oO 37 (.mv (.t 8)),
 oO 38 (.bin .lss .no (.t 36) (.t 37)),
 oO 39 (.mv (.t 38)),
 oG 40 (.mv (.t 2)) 39 true,
 oG 41 (.mv (.t 0)) 39 true,
 oG 42 (.mv (.t 9)) 39 true,
 oG 43 (.iad 2 (.t 41) (.t 42)) 39 true,
 oG 44 (.loadn 2 (.t 43)) 39 true,
 oG 45 (.mv (.t 1)) 39 true,
 oG 46 (.callv (.t 40) false [(.t 44), (.t 45)]) 39 true,
 oG 47 (.bin .eql .no (.t 46) (.c (.int .i64 0))) 39 true,
 oO 48 (.pick (.t 39) (.t 47) (.c (.bool false))),
 oO 6 (.mv (.t 35)),
 oO 7 (.mv (.t 48))])
 (.ret)))))⟩

/- (*redpencil/omap.Map[int, string]).find$1 -/
def a58 : AFn := ⟨14, [.t 5],
  .seq (.reg [oO 3 (.box 2 (.t 0)),
 oO 5 (.mv (.c (.int .i64 0)))])
 (.seq (.regd 0 [oO 6 (.load1 (.t 2)),
 oO 7 (.nchk (.t 6)),
 oO 8 (.fad 0 (.t 7)),
 oO 9 (.load1 (.t 8)),
 oO 10 (.fad 0 (.t 3)),
 oO 11 (.load1 (.t 10)),
 oO 12 (.mv (.t 1)),
 oO 13 (.callv (.t 9) false [(.t 11), (.t 12)]),
 oO 5 (.mv (.t 13))])
 (.ret))⟩

/- slices.rotateRight[redpencil/omap.entry[int, string]] -/
/- (redpencil/redpencilref08.Map).before -/
/- slices.Clone[[]redpencil/omap.entry[int, string],redpencil/omap.entry[int, string]] -/
def a62 : AFn := ⟨8, [.t 2],
  .seq (.reg [oO 2 (.mv (.c .nils))])
 (.seq (.seq (.reg [oO 3 (.mv (.t 0)),
 oO 4 (.bin .eql .ns (.t 3) (.c .nils))])
 (.cond (.t 4) (.seq (.reg [oO 2 (.mv (.c .nils))])
 (.ret))
 (.skip)))
 (.seq (.reg [oO 5 (.bsl [] 0 2 []),
 oO 6 (.mv (.t 0)),
 oO 7 (.app 2 24 [(.int .i64 0), (.str ⟨#[]⟩)] (.t 5) (.t 6)),
 oO 2 (.mv (.t 7))])
 (.ret)))⟩

/- redpencil/omap.over[int,string]$1 -/
/- slices.BinarySearchFunc[[]redpencil/omap.entry[string, []int],redpencil/omap.entry[string, []int],string] -/
def a64 : AFn := ⟨49, [.t 6, .t 7],
  .seq (.reg [oO 6 (.mv (.c (.int .i64 0))),
 oO 7 (.mv (.c (.bool false)))])
 (.seq (.reg [oO 12 (.mv (.t 0)),
 oO 13 (.len .sl (.t 12)),
 oO 8 (.mv (.t 13))])
 (.seq (.reg [oO 14 (.mv (.t 8)),
 oO 9 (.mv (.c (.int .i64 0))),
 oO 10 (.mv (.t 14))])
 (.seq (.block 0 (.loop (.seq (.seq (.reg [oO 15 (.mv (.t 9)),
 oO 16 (.mv (.t 10)),
 oO 17 (.bin .lss .no (.t 15) (.t 16))])
 (.cond (.t 17) (.skip)
 (.exit 0)))
 (.block 1 (.seq (.reg [oO 18 (.mv (.t 9)),
 oO 19 (.mv (.t 10)),
 oO 20 (.bin .add .no (.t 18) (.t 19)),
 oO 21 (.conv .u64 (.t 20)),
 oO 22 (.bin .shr .no (.t 21) (.c (.int .u64 1))),
 oO 23 (.conv .i64 (.t 22)),
 oO 11 (.mv (.t 23))])
 (.seq (.reg [oO 24 (.mv (.t 2)),
 oO 25 (.mv (.t 0)),
 oO 26 (.mv (.t 11)),
 oO 27 (.iad 2 (.t 25) (.t 26)),
 oO 28 (.loadn 2 (.t 27)),
 oO 29 (.mv (.t 1)),
 oO 30 (.callv (.t 24) false [(.t 28), (.t 29)]),
 oO 31 (.bin .lss .no (.t 30) (.c (.int .i64 0)))])
 (.cond (.t 31) (.reg [oO 32 (.mv (.t 11)),
 oO 33 (.bin .add .no (.t 32) (.c (.int .i64 1))),
 oO 9 (.mv (.t 33))])
 (.reg [oO 34 (.mv (.t 11)),
 oO 10 (.mv (.t 34))]))))))))
 (.seq (.reg [oO 35 (.mv (.t 9)),
 oO 36 (.mv (.t 9)),
 oO 37 (.mv (.t 8)),
 oO 38 (.bin .lss .no (.t 36) (.t 37)),
 oO 39 (.mv (.t 38)),
 oG 40 (.mv (.t 2)) 39 true,
 oG 41 (.mv (.t 0)) 39 true,
 oG 42 (.mv (.t 9)) 39 true,
 oG 43 (.iad 2 (.t 41) (.t 42)) 39 true,
 oG 44 (.loadn 2 (.t 43)) 39 true,
 oG 45 (.mv (.t 1)) 39 true,
 oG 46 (.callv (.t 40) false [(.t 44), (.t 45)]) 39 true,
 oG 47 (.bin .eql .no (.t 46) (.c (.int .i64 0))) 39 true,
 oO 48 (.pick (.t 39) (.t 47) (.c (.bool false))),
 oO 6 (.mv (.t 35)),
 oO 7 (.mv (.t 48))])
 (.ret)))))⟩

/- (*redpencil/omap.Map[string, []int]).find$1 -/
def a65 : AFn := ⟨14, [.t 5],
  .seq (.reg [oO 3 (.box 2 (.t 0)),
 oO 5 (.mv (.c (.int .i64 0)))])
 (.seq (.regd 0 [oO 6 (.load1 (.t 2)),
 oO 7 (.nchk (.t 6)),
 oO 8 (.fad 0 (.t 7)),
 oO 9 (.load1 (.t 8)),
 oO 10 (.fad 0 (.t 3)),
 oO 11 (.load1 (.t 10)),
 oO 12 (.mv (.t 1)),
 oO 13 (.callv (.t 9) false [(.t 11), (.t 12)]),
 oO 5 (.mv (.t 13))])
 (.ret))⟩

/- slices.rotateRight[redpencil/omap.entry[string, []int]] -/
/- slices.Clone[[]redpencil/omap.entry[string, []int],redpencil/omap.entry[string, []int]] -/
def a68 : AFn := ⟨8, [.t 2],
  .seq (.reg [oO 2 (.mv (.c .nils))])
 (.seq (.seq (.reg [oO 3 (.mv (.t 0)),
 oO 4 (.bin .eql .ns (.t 3) (.c .nils))])
 (.cond (.t 4) (.seq (.reg [oO 2 (.mv (.c .nils))])
 (.ret))
 (.skip)))
 (.seq (.reg [oO 5 (.bsl [] 0 2 []),
 oO 6 (.mv (.t 0)),
 oO 7 (.app 2 40 [(.str ⟨#[]⟩), .nils] (.t 5) (.t 6)),
 oO 2 (.mv (.t 7))])
 (.ret)))⟩

/- redpencil/omap.over[string,[]int]$1 -/
/- slices.rotateLeft[redpencil/omap.entry[int, string]] -/
/- slices.rotateLeft[redpencil/omap.entry[string, []int]] -/
/- slices.Reverse[[]redpencil/omap.entry[int, string],redpencil/omap.entry[int, string]] -/
/- slices.Reverse[[]redpencil/omap.entry[string, []int],redpencil/omap.entry[string, []int]] -/
end Go.AM
end
/-
  They are what the compiler makes of the loaded program. Printed by a program of this project.
-/
section
namespace Go.AM
open Go Go.Proofs

theorem c25 : cfn Try.prog Try.f25 = some a25 := by kernel_rfl
theorem k25 : callable Try.prog 25 = true := by kernel_rfl
theorem c26 : cfn Try.prog Try.f26 = some a26 := by kernel_rfl
theorem k26 : callable Try.prog 26 = true := by kernel_rfl
theorem c27 : cfn Try.prog Try.f27 = some a27 := by kernel_rfl
theorem k27 : callable Try.prog 27 = true := by kernel_rfl
theorem c28 : cfn Try.prog Try.f28 = some a28 := by kernel_rfl
theorem k28 : callable Try.prog 28 = true := by kernel_rfl
theorem c30 : cfn Try.prog Try.f30 = some a30 := by kernel_rfl
theorem k30 : callable Try.prog 30 = true := by kernel_rfl
theorem c34 : cfn Try.prog Try.f34 = some a34 := by kernel_rfl
theorem k34 : callable Try.prog 34 = true := by kernel_rfl
theorem c35 : cfn Try.prog Try.f35 = some a35 := by kernel_rfl
theorem k35 : callable Try.prog 35 = true := by kernel_rfl
theorem c36 : cfn Try.prog Try.f36 = some a36 := by kernel_rfl
theorem k36 : callable Try.prog 36 = true := by kernel_rfl
theorem c38 : cfn Try.prog Try.f38 = some a38 := by kernel_rfl
theorem k38 : callable Try.prog 38 = true := by kernel_rfl
theorem c39 : cfn Try.prog Try.f39 = some a39 := by kernel_rfl
theorem k39 : callable Try.prog 39 = true := by kernel_rfl
theorem c40 : cfn Try.prog Try.f40 = some a40 := by kernel_rfl
theorem k40 : callable Try.prog 40 = true := by kernel_rfl
theorem c41 : cfn Try.prog Try.f41 = some a41 := by kernel_rfl
theorem k41 : callable Try.prog 41 = true := by kernel_rfl
theorem c43 : cfn Try.prog Try.f43 = some a43 := by kernel_rfl
theorem k43 : callable Try.prog 43 = true := by kernel_rfl
theorem c44 : cfn Try.prog Try.f44 = some a44 := by kernel_rfl
theorem k44 : callable Try.prog 44 = true := by kernel_rfl
theorem c45 : cfn Try.prog Try.f45 = some a45 := by kernel_rfl
theorem k45 : callable Try.prog 45 = true := by kernel_rfl
theorem c46 : cfn Try.prog Try.f46 = some a46 := by kernel_rfl
theorem k46 : callable Try.prog 46 = true := by kernel_rfl
theorem c47 : cfn Try.prog Try.f47 = some a47 := by kernel_rfl
theorem k47 : callable Try.prog 47 = true := by kernel_rfl
theorem c48 : cfn Try.prog Try.f48 = some a48 := by kernel_rfl
theorem k48 : callable Try.prog 48 = true := by kernel_rfl
theorem c49 : cfn Try.prog Try.f49 = some a49 := by kernel_rfl
theorem k49 : callable Try.prog 49 = true := by kernel_rfl
theorem c50 : cfn Try.prog Try.f50 = some a50 := by kernel_rfl
theorem k50 : callable Try.prog 50 = true := by kernel_rfl
theorem c51 : cfn Try.prog Try.f51 = some a51 := by kernel_rfl
theorem k51 : callable Try.prog 51 = true := by kernel_rfl
theorem c55 : cfn Try.prog Try.f55 = some a55 := by kernel_rfl
theorem k55 : callable Try.prog 55 = true := by kernel_rfl
theorem c56 : cfn Try.prog Try.f56 = some a56 := by kernel_rfl
theorem k56 : callable Try.prog 56 = true := by kernel_rfl
theorem c57 : cfn Try.prog Try.f57 = some a57 := by kernel_rfl
theorem k57 : callable Try.prog 57 = true := by kernel_rfl
theorem c58 : cfn Try.prog Try.f58 = some a58 := by kernel_rfl
theorem k58 : callable Try.prog 58 = true := by kernel_rfl
theorem c62 : cfn Try.prog Try.f62 = some a62 := by kernel_rfl
theorem k62 : callable Try.prog 62 = true := by kernel_rfl
theorem c64 : cfn Try.prog Try.f64 = some a64 := by kernel_rfl
theorem k64 : callable Try.prog 64 = true := by kernel_rfl
theorem c65 : cfn Try.prog Try.f65 = some a65 := by kernel_rfl
theorem k65 : callable Try.prog 65 = true := by kernel_rfl
theorem c68 : cfn Try.prog Try.f68 = some a68 := by kernel_rfl
theorem k68 : callable Try.prog 68 = true := by kernel_rfl
end Go.AM
end
/-
  What all chapters need: conditions, slices made ready, pointers, maps by value, numbers. Own work of this project.
-/
section
set_option maxRecDepth 100000
namespace Go.AM
open Go Go.Proofs

variable {call : Nat → List AV → St → Option (AV × St)} {env : Env} {s t u : St}
theorem cs_dec (p : Prop) [Decidable p] (A B : Prop) : cstep (.bool (decide p)) A B = ((p → A) ∧ (¬ p → B)) := by by_cases h : p <;> simp [cstep, h]
theorem cs_not (b : Bool) (A B : Prop) : cstep (.bool (!b)) A B = cstep (.bool b) B A := by cases b <;> rfl
theorem cs_and (a b : Bool) (A B : Prop) : cstep (.bool (a && b)) A B = ((a = true ∧ b = true → A) ∧ ((a && b) = false → B)) := by cases a <;> cases b <;> simp [cstep]
theorem cs_or (a b : Bool) (A B : Prop) : cstep (.bool (a || b)) A B = (((a || b) = true → A) ∧ (a = false ∧ b = false → B)) := by cases a <;> cases b <;> simp [cstep]
theorem cs_true (A B : Prop) : cstep (.bool (decide True)) A B = A := by simp [cstep]
theorem cs_false (A B : Prop) : cstep (.bool (decide False)) A B = B := by simp [cstep]
theorem take_snoc {α : Type} {l : List α} {i : Nat} {x : α} (h : l[i]? = some x) : l.take (i + 1) = l.take i ++ [x] := by
  rw [List.take_add_one, h]
  rfl
def lookV (s : St) (z : AV) (k : EK) (ok : Bool) (m i : AV) : Option AV :=
  if i.key k then
    match m with
    | .nilm => some (if ok then .tup [z, .bool false] else z)
    | .mp id => match s.get id with
      | some (.map es _) => match findE k i es 0 with
        | some (some (_, v)) => some (if ok then .tup [v, .bool true] else v)
        | some none => some (if ok then .tup [z, .bool false] else z)
        | none => none
      | _ => none
    | _ => none
  else none
theorem ar_look (z : AV) (k : EK) (ok : Bool) (m i : AO) : aread call env s (.look z k ok m i) = lookV s z k ok (aev env m) (aev env i) := nrfl rfl
def msetV (s : St) (k : EK) (m i x : AV) : Option (AV × St) :=
  if i.key k && x.whole then
    match m with
    | .mp id => match s.get id with
      | some (.map es ck) => match findE k i es 0 with
        | some (some (j, _)) => match es[j]? with
          | some (_, _, b) => some (.und, s.put id (.map (es.set j (i, x, b)) ck))
          | none => none
        | some none => some (.und, s.put id (.map (es ++ [(i, x, ck)]) (ck + 1)))
        | none => none
      | _ => none
    | _ => none
  else none
theorem ae_mset (k : EK) (m i x : AO) : aeff call env s (.mset k m i x) = msetV s k (aev env m) (aev env i) (aev env x) := nrfl rfl
def rngV (s : St) : AV → Option (AV × St)
  | .nilm => some (.ptr s.next 0, s.push (.iter none 0 [] 0))
  | .mp id => match s.get id with
    | some (.map _ ck) => some (.ptr s.next 0, s.push (.iter (some id) ck [] ck))
    | _ => none
  | _ => none
theorem ae_rng (x : AO) : aeff call env s (.rng x) = rngV s (aev env x) := nrfl rfl
theorem ae_mkmap0 : aeff call env s (.mkmap none) = some (.mp s.next, s.push (.map [] 0)) := nrfl rfl
def entV (s : St) : AV → Option AV
  | .ptr id 0 => match s.get id with
    | some (.iter (some m) _ seen last) => match seen.getLast?, s.get m with
      | some stamp, some (.map es ck) => if ck = last then (es.find? fun e => e.2.2 == stamp).map fun e => .tup [e.1, e.2.1] else none
      | _, _ => none
    | _ => none
  | _ => none
theorem ar_ent (x : AO) : aread call env s (.ent x) = entV s (aev env x) := nrfl (by
  simp only [aread, entV]
  cases aev env x <;> rfl)
theorem lookV_push {id : Nat} (h : ltN id s) (b : AB) (z : AV) (k : EK) (ok : Bool) (i : AV) : lookV (s.push b) z k ok (.mp id) i = lookV s z k ok (.mp id) i := by
  simp only [lookV, St.get_push_old _ _ h]
theorem lookV_lowed (z : AV) (k : EK) (ok : Bool) (m i : AV) : lookV s.lowed z k ok m i = lookV s z k ok m i := by cases m <;> rfl
theorem put_push_lt {id : Nat} (h : ltN id s) (b c : AB) : (s.push b).put id c = (s.put id c).push b := by
  unfold ltN at h
  have : s.next + 1 - 1 - id = s.next - 1 - id + 1 := by omega
  simp only [St.push, St.put, this, List.set_cons_succ]
theorem msetV_push {id : Nat} (h : ltN id s) (b : AB) (k : EK) (i x : AV) : msetV (s.push b) k (.mp id) i x = (msetV s k (.mp id) i x).map fun r => (r.1, r.2.push b) := by
  simp only [msetV, St.get_push_old _ _ h, put_push_lt h]
  repeat' split
  all_goals rfl
theorem put_lowed (id : Nat) (c : AB) : s.lowed.put id c = (s.put id c).lowed := by
  simp only [St.put, St.lowed]
  congr 1
  omega
theorem msetV_lowed (k : EK) (m i x : AV) : msetV s.lowed k m i x = (msetV s k m i x).map fun r => (r.1, r.2.lowed) := by
  simp only [msetV, lowed_get, put_lowed]
  repeat' split
  all_goals rfl
theorem cs_dead (p : Prop) [Decidable p] (A B : Prop) : cstep (.bool (!decide p)) A B = cstep (.bool (decide p)) B A := cs_not _ _ _
theorem lt_put {n id : Nat} {t : St} (h : ltN n t) (c : AB) : ltN n (t.put id c) = True := eq_true h
theorem same_put {n id : Nat} {t : St} (h : sameN n t) (c : AB) : sameN n (t.put id c) = True := eq_true h
theorem sto_lowed (n : Nat) (a x : AV) : sto s.lowed n a x = (sto s n a x).map fun r => (r.1, r.2.lowed) := by
  simp only [sto, lowed_get, put_lowed]
  repeat' split
  all_goals rfl
theorem aappend_frame {t t' : St} {sz bytes k : Nat} {v v' : AV} {new : List AV} (h : aappend t sz bytes v new k = some (v', t')) {id : Nat} {b : AB} (hne : ∀ o n c z, v ≠ .sl id o n c z) (hg : t.get id = some b) : t'.get id = some b := by
  unfold aappend at h
  split at h
  · split at h
    · injection h with h; obtain ⟨_, rfl⟩ := Prod.mk.inj h; exact hg
    · split at h
      · injection h with h; obtain ⟨_, rfl⟩ := Prod.mk.inj h; exact get_push_some _ hg
      · cases h
  · rename_i id' off len cap z
    have hid : id ≠ id' := fun e => hne off len cap z (by rw [e])
    split at h
    · split at h
      · rename_i cs own hg'
        have hlt := St.get_lt hg'
        split at h
        · injection h with h; obtain ⟨_, rfl⟩ := Prod.mk.inj h; exact hg
        · split at h
          · split at h
            · split at h
              · split at h
                · injection h with h; obtain ⟨_, rfl⟩ := Prod.mk.inj h
                  rw [St.get_put_ne _ _ hlt hid]; exact hg
                · cases h
              · injection h with h; obtain ⟨_, rfl⟩ := Prod.mk.inj h; exact get_push_some _ hg
            · split at h
              · injection h with h; obtain ⟨_, rfl⟩ := Prod.mk.inj h
                refine get_push_some _ ?_
                rw [St.get_put_ne _ _ hlt hid]; exact hg
              · cases h
          · cases h
      · cases h
    · cases h
  · cases h
theorem appV_frame {t t' : St} {sz bytes : Nat} {v v' x : AV} (h : appV t sz bytes v x = some (v', t')) {id : Nat} {b : AB} (hne : ∀ o n c z, v ≠ .sl id o n c z) (hg : t.get id = some b) : t'.get id = some b := by
  unfold appV at h
  split at h
  · exact aappend_frame h hne hg
  · cases h
def bslV (z : List AV) (len sz : Nat) (ps : List (Nat × AV)) : Option ((Nat → AV) × AB) := (fillP [] z (ps.map fun p => (p.1 * sz, sz, .c p.2))).map fun cs => (fun id => .sl id 0 len (some len) sz, .row cs true)
theorem fillP_aev (env : Env) : ∀ (ps : List (Nat × Nat × AO)) (z : List AV), fillP env z ps = fillP [] z (ps.map fun p => (p.1, p.2.1, .c (aev env p.2.2)))
  | [], z => rfl
  | (a, b, x) :: r, z => by
    simp only [fillP, List.map_cons]
    show (if _ then _ else _) = (if _ then _ else _)
    rw [fillP_aev env r]
    rfl
theorem aa_bsl {env : Env} (z : List AV) (len sz : Nat) (ps : List (Nat × AO)) : aalloc env (.bsl z len sz ps) = bslV z len sz (ps.map fun p => (p.1, aev env p.2)) := by
  simp only [aalloc, bslV]
  rw [fillP_aev]
  simp only [List.map_map, Function.comp_def]
theorem sg_bsl {call : Nat → List AV → St → Option (AV × St)} {base : Nat} {d : Option Nat} {r : Option Nat} {fr : Bool} {rest : List AOper} {Q : Env → St → Prop} {env : Env} (z : List AV) (l n : Nat) (ps : List (Nat × AO)) (t : Nat) (w : Bool) :
    awops call base (⟨d, .bsl z l n ps, some (t, w), r, fr⟩ :: rest) Q env s = gstep (E env t) w (awops call base (⟨d, .bsl z l n ps, none, r, fr⟩ :: rest) Q env s) (awops call base rest Q (pE env d .und) s) := st_guard _ _ _
def nchkV : AV → Option AV
  | .ptr id o => some (.ptr id o)
  | _ => none
theorem ap_nchk (x : AO) : apure env (.nchk x) = nchkV (aev env x) := by
  simp only [apure, nchkV]
  generalize aev env x = v
  cases v <;> rfl
theorem nchkV_ptr (id o : Nat) : nchkV (.ptr id o) = some (.ptr id o) := nrfl rfl
theorem bin_np (id o : Nat) : binOp .eql .np (.ptr id o) .nilp = some (.bool false) := nrfl rfl
theorem bin_npn : binOp .eql .np .nilp .nilp = some (.bool true) := nrfl rfl
theorem bin_npx (id o : Nat) : binOp .neq .np (.ptr id o) .nilp = some (.bool true) := nrfl rfl
theorem bin_npnx : binOp .neq .np .nilp .nilp = some (.bool false) := nrfl rfl
def mmV (big : Bool) : List AV → Option AV
  | v :: r => mmL big v r
  | [] => none
theorem ap_mm (big : Bool) (xs : List AO) : apure env (.mm big xs) = mmV big (xs.map (aev env)) := by
  simp only [apure, mmV]
  cases xs.map (aev env) <;> rfl
theorem mmV_max (k : IntKind) (a b : Int) : mmV true [.int k a, .int k b] = some (.int k (max a b)) := by
  simp only [mmV, mmL, if_true]
  congr 2
  split <;> omega
theorem mmV_min (k : IntKind) (a b : Int) : mmV false [.int k a, .int k b] = some (.int k (min a b)) := by
  simp only [mmV, mmL, if_true, Bool.false_eq_true, if_false]
  congr 2
  split <;> omega
theorem res3 (env : Env) (s : St) (a b c : Nat) : aresults env s [.t a, .t b, .t c] = some (.tup [E env a, E env b, E env c]) := by
  unfold E
  rfl
theorem row2_lod {id : Nat} {a b : AV} {own : Bool} (h : t.get id = some (.row [a, b] own)) : lod1 t (.ptr id 0) = some a ∧ lod1 t (.ptr id 1) = some b ∧ ltN id t := by
  refine ⟨?_, ?_, St.get_lt h⟩ <;> simp [lod1, h]
theorem row2_sto {id : Nat} {a b : AV} (h : t.get id = some (.row [a, b] true)) {x : AV} (hc : x.cells = [x]) (ho : x.one = true) : sto t 1 (.ptr id 0) x = some (.und, t.put id (.row [x, b] true)) ∧ sto t 1 (.ptr id 1) x = some (.und, t.put id (.row [a, x] true)) := by
  constructor <;> simp [sto, h, hc, ho, setAt]
theorem Keep.born {s t : St} (h : Keep s t) {id : Nat} (b : AB) (h1 : s.next ≤ id) (h2 : id < t.next) : Keep s (t.born id b) :=
  ⟨by simpa using h.next, fun j hj => by rw [St.get_born_ne _ _ h2 (by omega), h.get j hj], by simpa using h.low⟩
def mkslV (z : List AV) (bytes : Nat) (l c : AV) : Option ((Nat → AV) × AB) := match l, c with
  | .int .i64 l, .int .i64 c =>
    if 0 ≤ l ∧ l ≤ c ∧ (bytes : Int) * c ≤ roomBytes ∧ c ≤ 9223372036854775807 then
        some (fun id => .sl id 0 l.toNat (some c.toNat) z.length, .row (zeros z c.toNat) true)
      else none
  | _, _ => none
theorem aa_mksl {env : Env} (z : List AV) (b : Nat) (l c : AO) : aalloc env (.mksl z b l c) = mkslV z b (aev env l) (aev env c) := by
  simp only [aalloc, mkslV]
  rfl
def copyV (s : St) (sz : Nat) (d x : AV) : Option (AV × St) := match d, lenOf x with
    | .nils, some _ => match shown s sz x with
      | some _ => some (.int .i64 0, s)
      | none => none
    | .sl id off len _ z, some k =>
      if z = sz then
        match shownP s sz (min k len) x, s.get id with
        | some new, some (.row cs true) =>
          if off ≤ cs.length then some (.int .i64 ((min k len : Nat) : Int), s.put id (.row (setAt cs off new) true)) else none
        | _, _ => none
      else none
    | _, _ => none
theorem ae_copy {call : Nat → List AV → St → Option (AV × St)} {env : Env} (sz : Nat) (d x : AO) : aeff call env s (.copy sz d x) = copyV s sz (aev env d) (aev env x) := by
  simp only [aeff, copyV]
  rfl
def slc3V (sz : Nat) (x h m : AV) : Option AV := apure [] (.slc sz (.c x) none (some (.c h)) (some (.c m)))
theorem ap_slc3 {env : Env} (sz : Nat) (x h m : AO) : apure env (.slc sz x none (some h) (some m)) = slc3V sz (aev env x) (aev env h) (aev env m) := nrfl rfl
theorem slc3V_all (j n : Nat) : slc3V 1 (.sl j 0 n (some n) 1) (.int .i64 (n : Int)) (.int .i64 (n : Int)) = some (.sl j 0 n (some n) 1) := by
  simp [slc3V, apure, aev, optNat, asNatIn]
theorem bin_nss (id off n : Nat) (cap : Option Nat) (z : Nat) : binOp .eql .ns (.sl id off n cap z) .nils = some (.bool false) := nrfl rfl
theorem bin_nsn : binOp .eql .ns .nils .nils = some (.bool true) := nrfl rfl
theorem tb_at (g : Nat) (c : Con) (r : List (Nat × Con)) (f : Nat) : tb ((g, c) :: r) f = if f = g then c else tb r f := nrfl rfl
theorem extV_2 (a b c : AV) (r : List AV) : extV 2 (.tup (a :: b :: c :: r)) = some c := nrfl rfl
end Go.AM
end
/-
  The rules for stepping that all chapters use, in one. Own work of this project.
-/
section
namespace Go.AM
open Go

theorem bX : type_of% (And.intro @cs_dec <|
  And.intro @cs_not <|
  And.intro @cs_and <|
  And.intro @cs_or <|
  And.intro @cs_dead <|
  And.intro @cs_true <|
  And.intro @cs_false <|
  And.intro @ae_app <|
  And.intro @ap_slc <|
  And.intro @mkR_none <|
  And.intro @mkR_some <|
  And.intro @ar_look <|
  And.intro @ae_mset <|
  And.intro @ae_rng <|
  And.intro @ae_mkmap0 <|
  And.intro @ar_ent <|
  And.intro @lookV_push <|
  And.intro @lookV_lowed <|
  And.intro @msetV_push <|
  And.intro @msetV_lowed <|
  And.intro @lt_put <|
  And.intro @same_put <|
  And.intro @sto_lowed <|
  And.intro @aa_bsl <|
  And.intro @ap_nchk <|
  And.intro @nchkV_ptr <|
  And.intro @bin_np <|
  And.intro @bin_npn <|
  And.intro @bin_npx <|
  And.intro @bin_npnx <|
  And.intro @ap_mm <|
  And.intro @mmV_max <|
  And.intro @mmV_min <|
  And.intro @res3 <|
  And.intro @aa_mksl <|
  And.intro @ae_copy <|
  And.intro @ap_slc3 <|
  And.intro @slc3V_all <|
  And.intro @bin_nss <|
  And.intro @bin_nsn <|
  @extV_2) := And.intro @cs_dec <|
  And.intro @cs_not <|
  And.intro @cs_and <|
  And.intro @cs_or <|
  And.intro @cs_dead <|
  And.intro @cs_true <|
  And.intro @cs_false <|
  And.intro @ae_app <|
  And.intro @ap_slc <|
  And.intro @mkR_none <|
  And.intro @mkR_some <|
  And.intro @ar_look <|
  And.intro @ae_mset <|
  And.intro @ae_rng <|
  And.intro @ae_mkmap0 <|
  And.intro @ar_ent <|
  And.intro @lookV_push <|
  And.intro @lookV_lowed <|
  And.intro @msetV_push <|
  And.intro @msetV_lowed <|
  And.intro @lt_put <|
  And.intro @same_put <|
  And.intro @sto_lowed <|
  And.intro @aa_bsl <|
  And.intro @ap_nchk <|
  And.intro @nchkV_ptr <|
  And.intro @bin_np <|
  And.intro @bin_npn <|
  And.intro @bin_npx <|
  And.intro @bin_npnx <|
  And.intro @ap_mm <|
  And.intro @mmV_max <|
  And.intro @mmV_min <|
  And.intro @res3 <|
  And.intro @aa_mksl <|
  And.intro @ae_copy <|
  And.intro @ap_slc3 <|
  And.intro @slc3V_all <|
  And.intro @bin_nss <|
  And.intro @bin_nsn <|
  @extV_2
theorem bE : type_of% (And.intro @E_pne <|
  And.intro @E_psame <|
  @elen_put) := And.intro @E_pne <|
  And.intro @E_psame <|
  @elen_put
end Go.AM
end
/-
  The rules for stepping, in bundles (simp takes a conjunction apart). Own work of this project; printed by a program of it.
-/
section
namespace Go.AM
open Go

theorem bD0 : type_of% (And.intro @st_nil <|
  And.intro @st_mv <|
  And.intro @sg_mv <|
  And.intro @st_pick <|
  And.intro @sg_pick <|
  And.intro @st_build <|
  And.intro @sg_build <|
  And.intro @st_bin <|
  And.intro @sg_bin <|
  And.intro @st_un <|
  And.intro @sg_un <|
  @st_conv) :=
  And.intro @st_nil <|
  And.intro @st_mv <|
  And.intro @sg_mv <|
  And.intro @st_pick <|
  And.intro @sg_pick <|
  And.intro @st_build <|
  And.intro @sg_build <|
  And.intro @st_bin <|
  And.intro @sg_bin <|
  And.intro @st_un <|
  And.intro @sg_un <|
  @st_conv
theorem bD1 : type_of% (And.intro @sg_conv <|
  And.intro @st_mkfn <|
  And.intro @sg_mkfn <|
  And.intro @st_slc <|
  And.intro @sg_slc <|
  And.intro @st_slcs <|
  And.intro @sg_slcs <|
  And.intro @st_fad <|
  And.intro @sg_fad <|
  And.intro @st_fld <|
  And.intro @sg_fld <|
  @st_iad) :=
  And.intro @sg_conv <|
  And.intro @st_mkfn <|
  And.intro @sg_mkfn <|
  And.intro @st_slc <|
  And.intro @sg_slc <|
  And.intro @st_slcs <|
  And.intro @sg_slcs <|
  And.intro @st_fad <|
  And.intro @sg_fad <|
  And.intro @st_fld <|
  And.intro @sg_fld <|
  @st_iad
theorem bD2 : type_of% (And.intro @sg_iad <|
  And.intro @st_idxs <|
  And.intro @sg_idxs <|
  And.intro @st_ext <|
  And.intro @sg_ext <|
  And.intro @st_len <|
  And.intro @sg_len <|
  And.intro @st_lens <|
  And.intro @sg_lens <|
  And.intro @st_cap <|
  And.intro @sg_cap <|
  @st_mm) :=
  And.intro @sg_iad <|
  And.intro @st_idxs <|
  And.intro @sg_idxs <|
  And.intro @st_ext <|
  And.intro @sg_ext <|
  And.intro @st_len <|
  And.intro @sg_len <|
  And.intro @st_lens <|
  And.intro @sg_lens <|
  And.intro @st_cap <|
  And.intro @sg_cap <|
  @st_mm
theorem bD3 : type_of% (And.intro @sg_mm <|
  And.intro @st_nchk <|
  And.intro @sg_nchk <|
  And.intro @st_load1 <|
  And.intro @sg_load1 <|
  And.intro @st_loadn <|
  And.intro @sg_loadn <|
  And.intro @st_b2s <|
  And.intro @sg_b2s <|
  And.intro @st_look <|
  And.intro @sg_look <|
  @st_lenm) :=
  And.intro @sg_mm <|
  And.intro @st_nchk <|
  And.intro @sg_nchk <|
  And.intro @st_load1 <|
  And.intro @sg_load1 <|
  And.intro @st_loadn <|
  And.intro @sg_loadn <|
  And.intro @st_b2s <|
  And.intro @sg_b2s <|
  And.intro @st_look <|
  And.intro @sg_look <|
  @st_lenm
theorem bD4 : type_of% (And.intro @sg_lenm <|
  And.intro @st_ent <|
  And.intro @sg_ent <|
  And.intro @st_calld <|
  And.intro @sg_calld <|
  And.intro @st_callvd <|
  And.intro @sg_callvd <|
  And.intro @st_call <|
  And.intro @sg_call <|
  And.intro @st_callv <|
  And.intro @sg_callv <|
  @st_store) :=
  And.intro @sg_lenm <|
  And.intro @st_ent <|
  And.intro @sg_ent <|
  And.intro @st_calld <|
  And.intro @sg_calld <|
  And.intro @st_callvd <|
  And.intro @sg_callvd <|
  And.intro @st_call <|
  And.intro @sg_call <|
  And.intro @st_callv <|
  And.intro @sg_callv <|
  @st_store
theorem bD5 : type_of% (And.intro @st_storef <|
  And.intro @st_app <|
  And.intro @st_appz <|
  And.intro @st_copy <|
  And.intro @st_clr <|
  And.intro @st_mkmap <|
  And.intro @st_mset <|
  And.intro @st_mdel <|
  And.intro @st_rng <|
  And.intro @st_allo <|
  And.intro @st_allor <|
  @st_box) :=
  And.intro @st_storef <|
  And.intro @st_app <|
  And.intro @st_appz <|
  And.intro @st_copy <|
  And.intro @st_clr <|
  And.intro @st_mkmap <|
  And.intro @st_mset <|
  And.intro @st_mdel <|
  And.intro @st_rng <|
  And.intro @st_allo <|
  And.intro @st_allor <|
  @st_box
theorem bD6 : type_of% (And.intro @st_boxr <|
  And.intro @st_bsl <|
  And.intro @st_bslr <|
  And.intro @st_mksl <|
  And.intro @st_mkslr <|
  And.intro @wp_regd <|
  And.intro @wp_regw <|
  And.intro @wp_reg <|
  And.intro @wp_skip <|
  And.intro @wp_exit <|
  And.intro @wp_ret <|
  @wp_seq) :=
  And.intro @st_boxr <|
  And.intro @st_bsl <|
  And.intro @st_bslr <|
  And.intro @st_mksl <|
  And.intro @st_mkslr <|
  And.intro @wp_regd <|
  And.intro @wp_regw <|
  And.intro @wp_reg <|
  And.intro @wp_skip <|
  And.intro @wp_exit <|
  And.intro @wp_ret <|
  @wp_seq
theorem bD7 : type_of% (
  @wp_block) :=
  
  @wp_block
theorem bU0 : type_of% (And.intro @E_pne <|
  And.intro @E_psame <|
  And.intro @elen_put <|
  And.intro @aev_t <|
  And.intro @aev_c <|
  And.intro @aev_f <|
  And.intro @pE_none <|
  And.intro @pstep_some <|
  And.intro @estep_some <|
  And.intro @gstep_tt <|
  And.intro @gstep_ff <|
  @gstep_tf) :=
  And.intro @E_pne <|
  And.intro @E_psame <|
  And.intro @elen_put <|
  And.intro @aev_t <|
  And.intro @aev_c <|
  And.intro @aev_f <|
  And.intro @pE_none <|
  And.intro @pstep_some <|
  And.intro @estep_some <|
  And.intro @gstep_tt <|
  And.intro @gstep_ff <|
  @gstep_tf
theorem bU1 : type_of% (And.intro @gstep_ft <|
  And.intro @gstep_und <|
  And.intro @astep_some <|
  And.intro @bstep_some <|
  And.intro @chkE_nil <|
  And.intro @chkE_cons <|
  And.intro @cstep_true <|
  And.intro @cstep_false <|
  And.intro @rstep_true <|
  And.intro @noNxt_nil <|
  And.intro @noNxt_cons <|
  @Bool.and_true) :=
  And.intro @gstep_ft <|
  And.intro @gstep_und <|
  And.intro @astep_some <|
  And.intro @bstep_some <|
  And.intro @chkE_nil <|
  And.intro @chkE_cons <|
  And.intro @cstep_true <|
  And.intro @cstep_false <|
  And.intro @rstep_true <|
  And.intro @noNxt_nil <|
  And.intro @noNxt_cons <|
  @Bool.and_true
theorem bU2 : type_of% (And.intro @Bool.true_and <|
  And.intro @Bool.and_false <|
  And.intro @Bool.false_and <|
  And.intro @Bool.or_true <|
  And.intro @Bool.true_or <|
  And.intro @Bool.or_false <|
  And.intro @Bool.false_or <|
  And.intro @Bool.and_eq_true <|
  And.intro @sel_true <|
  And.intro @sel_false <|
  And.intro @gP_bt <|
  @gP_bf) :=
  And.intro @Bool.true_and <|
  And.intro @Bool.and_false <|
  And.intro @Bool.false_and <|
  And.intro @Bool.or_true <|
  And.intro @Bool.true_or <|
  And.intro @Bool.or_false <|
  And.intro @Bool.false_or <|
  And.intro @Bool.and_eq_true <|
  And.intro @sel_true <|
  And.intro @sel_false <|
  And.intro @gP_bt <|
  @gP_bf
theorem bU3 : type_of% (And.intro @gP_st <|
  And.intro @gP_sf <|
  And.intro @gP_und <|
  And.intro @gpure_bt <|
  And.intro @gpure_bf <|
  And.intro @gpure_st <|
  And.intro @gpure_sf <|
  And.intro @gpure_und <|
  And.intro @gpure_sft <|
  And.intro @gpure_stf <|
  And.intro @gcall_sft <|
  @gcall_stf) :=
  And.intro @gP_st <|
  And.intro @gP_sf <|
  And.intro @gP_und <|
  And.intro @gpure_bt <|
  And.intro @gpure_bf <|
  And.intro @gpure_st <|
  And.intro @gpure_sf <|
  And.intro @gpure_und <|
  And.intro @gpure_sft <|
  And.intro @gpure_stf <|
  And.intro @gcall_sft <|
  @gcall_stf
theorem bU4 : type_of% (And.intro @gpure_tf <|
  And.intro @gpure_ft <|
  And.intro @gcall_bt <|
  And.intro @gcall_bf <|
  And.intro @gcall_st <|
  And.intro @gcall_sf <|
  And.intro @gcall_und <|
  And.intro @gcall_tf <|
  And.intro @gcall_ft <|
  And.intro @gcall_tt <|
  And.intro @gcall_ff <|
  @res1) :=
  And.intro @gpure_tf <|
  And.intro @gpure_ft <|
  And.intro @gcall_bt <|
  And.intro @gcall_bf <|
  And.intro @gcall_st <|
  And.intro @gcall_sf <|
  And.intro @gcall_und <|
  And.intro @gcall_tf <|
  And.intro @gcall_ft <|
  And.intro @gcall_tt <|
  And.intro @gcall_ff <|
  @res1
theorem bU5 : type_of% (And.intro @res2 <|
  And.intro @res0 <|
  And.intro @rc1 <|
  And.intro @rc2 <|
  And.intro @ar_loadn <|
  And.intro @ar_load1 <|
  And.intro @ae_store <|
  And.intro @ap_iad <|
  And.intro @ap_fad <|
  And.intro @fadV_ptr <|
  And.intro @ap_len <|
  @lenV_sl) :=
  And.intro @res2 <|
  And.intro @res0 <|
  And.intro @rc1 <|
  And.intro @rc2 <|
  And.intro @ar_loadn <|
  And.intro @ar_load1 <|
  And.intro @ae_store <|
  And.intro @ap_iad <|
  And.intro @ap_fad <|
  And.intro @fadV_ptr <|
  And.intro @ap_len <|
  @lenV_sl
theorem bU6 : type_of% (And.intro @lenV_nils <|
  And.intro @ap_pick <|
  And.intro @pickV_t <|
  And.intro @pickV_f <|
  And.intro @pickV_or <|
  And.intro @pickV_ors <|
  And.intro @pickV_orn <|
  And.intro @ar_call <|
  And.intro @pickV_and <|
  And.intro @pickV_ands <|
  And.intro @ap_not <|
  @notV_bool) :=
  And.intro @lenV_nils <|
  And.intro @ap_pick <|
  And.intro @pickV_t <|
  And.intro @pickV_f <|
  And.intro @pickV_or <|
  And.intro @pickV_ors <|
  And.intro @pickV_orn <|
  And.intro @ar_call <|
  And.intro @pickV_and <|
  And.intro @pickV_ands <|
  And.intro @ap_not <|
  @notV_bool
theorem bU7 : type_of% (And.intro @ap_ext <|
  And.intro @extV_0 <|
  And.intro @extV_1 <|
  And.intro @ap_build <|
  And.intro @fillP_nil <|
  And.intro @fillP_cons <|
  And.intro @aa_bsl1 <|
  And.intro @aa_box <|
  And.intro @boxV_dot <|
  And.intro @boxV_nd <|
  And.intro @fstep_nd <|
  @fstep_dot) :=
  And.intro @ap_ext <|
  And.intro @extV_0 <|
  And.intro @extV_1 <|
  And.intro @ap_build <|
  And.intro @fillP_nil <|
  And.intro @fillP_cons <|
  And.intro @aa_bsl1 <|
  And.intro @aa_box <|
  And.intro @boxV_dot <|
  And.intro @boxV_nd <|
  And.intro @fstep_nd <|
  @fstep_dot
theorem bU8 : type_of% (And.intro @push_put <|
  And.intro @reserve0 <|
  And.intro @reserve1_get <|
  And.intro @reserve1_get' <|
  And.intro @reserve1_born <|
  And.intro @reserve1_born' <|
  And.intro @sto_nd <|
  And.intro @sto_nd0 <|
  And.intro @lod_nd <|
  And.intro @lod_nd_dot <|
  And.intro @lod_nd_par <|
  @lod1_nd_t) :=
  And.intro @push_put <|
  And.intro @reserve0 <|
  And.intro @reserve1_get <|
  And.intro @reserve1_get' <|
  And.intro @reserve1_born <|
  And.intro @reserve1_born' <|
  And.intro @sto_nd <|
  And.intro @sto_nd0 <|
  And.intro @lod_nd <|
  And.intro @lod_nd_dot <|
  And.intro @lod_nd_par <|
  @lod1_nd_t
theorem bU9 : type_of% (And.intro @lod1_nd_x <|
  And.intro @lod_dot <|
  And.intro @lod1_dot_r <|
  And.intro @lod1_dot_c <|
  And.intro @sto_push_lt <|
  And.intro @lod_reserve <|
  And.intro @lod1_reserve <|
  And.intro @sto_nd_x <|
  And.intro @sto_nd_t <|
  And.intro @lt_lowed <|
  And.intro @kt_refl <|
  @kt_push) :=
  And.intro @lod1_nd_x <|
  And.intro @lod_dot <|
  And.intro @lod1_dot_r <|
  And.intro @lod1_dot_c <|
  And.intro @sto_push_lt <|
  And.intro @lod_reserve <|
  And.intro @lod1_reserve <|
  And.intro @sto_nd_x <|
  And.intro @sto_nd_t <|
  And.intro @lt_lowed <|
  And.intro @kt_refl <|
  @kt_push
theorem bU10 : type_of% (And.intro @kt_lowed <|
  And.intro @lod_push_lt <|
  And.intro @lod1_push_lt <|
  And.intro @lod_lowed <|
  And.intro @lod1_lowed <|
  And.intro @lod_lowd <|
  And.intro @lod1_lowd <|
  And.intro @bin_lss <|
  And.intro @bin_leq <|
  And.intro @bin_gtr <|
  And.intro @bin_geq <|
  @bin_eql) :=
  And.intro @kt_lowed <|
  And.intro @lod_push_lt <|
  And.intro @lod1_push_lt <|
  And.intro @lod_lowed <|
  And.intro @lod1_lowed <|
  And.intro @lod_lowd <|
  And.intro @lod1_lowd <|
  And.intro @bin_lss <|
  And.intro @bin_leq <|
  And.intro @bin_gtr <|
  And.intro @bin_geq <|
  @bin_eql
theorem bU11 : type_of% (And.intro @bin_neq <|
  And.intro @bin_add <|
  And.intro @bin_sub <|
  And.intro @bin_eqb <|
  And.intro @bin_neb <|
  And.intro @bin_eqd <|
  And.intro @bin_neqd <|
  And.intro @bin_eqd0 <|
  And.intro @bin_neqd0 <|
  And.intro @bin_eqn <|
  And.intro @bin_neqn <|
  @Nat.add_zero) :=
  And.intro @bin_neq <|
  And.intro @bin_add <|
  And.intro @bin_sub <|
  And.intro @bin_eqb <|
  And.intro @bin_neb <|
  And.intro @bin_eqd <|
  And.intro @bin_neqd <|
  And.intro @bin_eqd0 <|
  And.intro @bin_neqd0 <|
  And.intro @bin_eqn <|
  And.intro @bin_neqn <|
  @Nat.add_zero
theorem bU12 : type_of% (And.intro @Nat.zero_add <|
  And.intro @Bool.not_true <|
  And.intro @Bool.not_eq_true' <|
  And.intro @Bool.not_eq_false' <|
  And.intro @Bool.not_false <|
  And.intro @Bool.not_not <|
  And.intro @not_false_eq_true <|
  And.intro @true_and <|
  And.intro @and_true <|
  And.intro @Nat.one_ne_zero <|
  And.intro @Nat.zero_ne_one <|
  @Nat.zero_mul) :=
  And.intro @Nat.zero_add <|
  And.intro @Bool.not_true <|
  And.intro @Bool.not_eq_true' <|
  And.intro @Bool.not_eq_false' <|
  And.intro @Bool.not_false <|
  And.intro @Bool.not_not <|
  And.intro @not_false_eq_true <|
  And.intro @true_and <|
  And.intro @and_true <|
  And.intro @Nat.one_ne_zero <|
  And.intro @Nat.zero_ne_one <|
  @Nat.zero_mul
theorem bU13 : type_of% (And.intro @Nat.one_mul <|
  And.intro @lowed_next <|
  And.intro @lt_push <|
  And.intro @lt_push_same <|
  And.intro @same_self <|
  And.intro @same_push <|
  And.intro @same_lowed <|
  And.intro @same_lowed' <|
  And.intro @decide_true <|
  @decide_false) :=
  And.intro @Nat.one_mul <|
  And.intro @lowed_next <|
  And.intro @lt_push <|
  And.intro @lt_push_same <|
  And.intro @same_self <|
  And.intro @same_push <|
  And.intro @same_lowed <|
  And.intro @same_lowed' <|
  And.intro @decide_true <|
  @decide_false
theorem bD : type_of% (And.intro @bD0 <|
  And.intro @bD1 <|
  And.intro @bD2 <|
  And.intro @bD3 <|
  And.intro @bD4 <|
  And.intro @bD5 <|
  And.intro @bD6 <|
  @bD7) :=
  And.intro @bD0 <|
  And.intro @bD1 <|
  And.intro @bD2 <|
  And.intro @bD3 <|
  And.intro @bD4 <|
  And.intro @bD5 <|
  And.intro @bD6 <|
  @bD7
theorem bU : type_of% (And.intro @bU0 <|
  And.intro @bU1 <|
  And.intro @bU2 <|
  And.intro @bU3 <|
  And.intro @bU4 <|
  And.intro @bU5 <|
  And.intro @bU6 <|
  And.intro @bU7 <|
  And.intro @bU8 <|
  And.intro @bU9 <|
  And.intro @bU10 <|
  And.intro @bU11 <|
  And.intro @bU12 <|
  @bU13) :=
  And.intro @bU0 <|
  And.intro @bU1 <|
  And.intro @bU2 <|
  And.intro @bU3 <|
  And.intro @bU4 <|
  And.intro @bU5 <|
  And.intro @bU6 <|
  And.intro @bU7 <|
  And.intro @bU8 <|
  And.intro @bU9 <|
  And.intro @bU10 <|
  And.intro @bU11 <|
  And.intro @bU12 <|
  @bU13

theorem bS : type_of% (And.intro @List.all_cons.{0} <| And.intro @List.all_nil.{0} <| And.intro @Option.map_some.{0,0} <| And.intro @List.map_cons.{0,0} <| And.intro @List.map_nil.{0,0} <| @ne_eq.{1}) :=
  And.intro @List.all_cons.{0} <| And.intro @List.all_nil.{0} <| And.intro @Option.map_some.{0,0} <| And.intro @List.map_cons.{0,0} <| And.intro @List.map_nil.{0,0} <| @ne_eq.{1}
theorem bT : type_of% (And.intro @Int.ofNat_lt <| And.intro @Int.ofNat_le <| And.intro @exists_const.{1} <| And.intro @Option.map_none.{0,0} <| And.intro @beq_self_eq_true.{0} <| @decide_true) :=
  And.intro @Int.ofNat_lt <| And.intro @Int.ofNat_le <| And.intro @exists_const.{1} <| And.intro @Option.map_none.{0,0} <| And.intro @beq_self_eq_true.{0} <| @decide_true
theorem bN : type_of% (And.intro @ne_eq.{1} <| not_false_eq_true) :=
  And.intro @ne_eq.{1} <| not_false_eq_true
end Go.AM
end
/-
  The program follows no fixed order. Own work of this project.
-/
section
namespace Go.AM
open Go Go.Proofs
theorem mixed : Try.prog.follows .mixedOrders = true := by kernel_rfl
end Go.AM
end
/-
  Ranges over functions: code in a round's frame; an iterator's code, the round's body in the place of yield; the statement. Own work of this project.
-/
section
namespace Go.AM
open Go

variable {P : Program} {ρ : Ren}

/-! ### Fences -/
def fenceAt (ro : Option Nat) : Fence := { Fence.wide with round := ro }
theorem calls_in {ro : Option Nat} {n : Nat} {f : FuncId} {args : Array Value} {w : World} {R : Ending → World → Prop} (h : Calls P f args w R) : CallsIn (fenceAt ro) n P f args w R := by
  cases ro with
  | none => exact callsIn_wide.2 h
  | some l => exact CallsIn.inRound l (callsIn_wide.2 h)
theorem steps_in {ro : Option Nat} {m m' : Machine} (h : Steps P m m') : StepsIn (Machine.fenced P (fenceAt ro)) P m m' := by
  have := (stepsIn_wide (P := P)).2 h
  cases ro <;> exact this
theorem rows_in {ro : Option Nat} {n : Nat} {row : String} {args : Array Value} {w : World} {R : Value → World → Prop} (h : Rows P row args w R) : RowsIn (fenceAt ro) n P row args w R := fun c cs _ => by
  obtain ⟨v, w', h1, h2⟩ := h c cs
  exact ⟨v, w', h1, steps_in h2⟩
def isDefer : Op → Bool
  | .defer _ => true
  | _ => false
theorem oper_in {ro : Option Nat} {n : Nat} {o : Oper} {a : Act} {w : World} {K : Act → World → Prop} {Q : Exit → Act → World → Prop} (hnd : ro = none ∨ isDefer o.op = false) (h : o.wp P a w K Q) : o.wpIn (fenceAt ro) n P a w K Q := by
  refine ⟨fun _ _ => trivial, ?_⟩
  have he : o.semAt (fenceAt ro).round a.eval = execOp a.eval o := by
    rcases hnd with rfl | hnd
    · rfl
    · exact Oper.semAt_eq _ _ _ fun c e => by rw [e] at hnd; cases hnd
  rw [he]
  unfold Oper.wp at h
  generalize (execOp a.eval o).run P w = r at *
  cases r with
  | ok x w' =>
    cases x with
    | value v => exact h
    | skip => exact h
    | defer d => exact h
    | enter f args => exact ⟨fun q => by simp [fenceAt, Fence.wide] at q, calls_in h⟩
    | row row args => exact ⟨fun q => by simp [fenceAt, Fence.wide] at q, rows_in h⟩
    | round l f tmps a b => exact h.elim
    | _ => exact h.elim
  | halt x w' => cases x <;> first | exact h | exact h.elim
def noDefers (ops : Array Oper) : Bool := ops.all fun o => !isDefer o.op
def noDefer : Code → Bool
  | .region _ ops _ => noDefers ops
  | .seq a b | .cond _ a b => noDefer a && noDefer b
  | .block _ c | .loop c => noDefer c
  | .rangeFunc .. => false
  | _ => true
theorem noDefers_at {ops : Array Oper} (h : noDefers ops = true) {i : Nat} {o : Oper} (ho : ops[i]? = some o) : isDefer o.op = false := by
  have := (Array.all_eq_true'.1 h) o (Array.mem_of_getElem? ho)
  simpa using this
theorem any_in {ro : Option Nat} {n : Nat} {md : Region.Mode} {ops : Array Oper} {Q : Exit → Act → World → Prop} (hnd : ro = none ∨ noDefers ops = true) (hq : ¬ LetsOut Q) : ∀ (fuel : Nat) (listed : Array Bool) (a : Act) (w : World),
    wpAny P md ops Q fuel listed a w → wpAnyIn (fenceAt ro) n P md ops Q fuel listed a w
  | 0, _, _, _, h => h
  | fuel + 1, listed, a, w, h => by
    refine ⟨h.1, fun i hi => ?_⟩
    have h2 := h.2 i hi
    unfold wpOp at h2
    unfold wpOpIn
    cases ho : ops[i]? with
    | none => rw [ho] at h2; exact any_in hnd hq fuel _ a w h2
    | some o =>
      rw [ho] at h2
      simp only at h2 ⊢
      split
      · rename_i hw
        rw [if_pos hw] at h2
        rcases h2 with h2 | h2
        · exact Oper.wpIn_mono (fun a w => any_in hnd hq fuel _ a w) (oper_in (hnd.imp id fun q => noDefers_at q ho) h2)
        · exact absurd h2.2 hq
      · rename_i hw
        rw [if_neg hw] at h2
        exact ⟨fun _ _ => trivial, any_in hnd hq fuel _ _ w h2⟩

/-! ### Code in any such frame -/
variable {ro : Option Nat} {n : Nat}
theorem awops_in {call : Nat → List AV → St → Option (AV × St)} (hS : Sound P call) {ops : Array Oper} {base : Nat} {Q : Exit → Act → World → Prop} {Qa : Env → St → Prop} {df : List Deferred} {rest : List Nat} (hnd : ro = none ∨ noDefers ops = true) : ∀ (os : List Oper) (k : Nat) (l : List AOper) (env : Env) (s : St) (ρ : Ren) (a : Act) (w : World),
    (∀ j o, os[j]? = some o → ops[k + j]? = some o) → cregP P ops os = some l → awops call base l Qa env s → EnvR ρ env a.tmps → R s ρ w → Free s ρ → a.defers = df →
    (∀ env' s' ρ' a' w', Qa env' s' → Step s s' ρ ρ' w w' → R s' ρ' w' → Free s' ρ' → EnvR ρ' env' a'.tmps → a'.defers = df → wpOpsIn (fenceAt ro) n P ops Q rest a' w') → wpOpsIn (fenceAt ro) n P ops Q (List.range' k os.length ++ rest) a w
  | [], k, l, env, s, ρ, a, w, _, hl, h, hE, hR, hf, hd, hQ => by
    simp only [cregP] at hl
    injection hl with hl; subst hl
    simp only [awops] at h
    exact hQ env s ρ a w h (Step.refl _ _ _) hR hf hE hd
  | o :: os, k, l, env, s, ρ, a, w, hix, hl, h, hE, hR, hf, hd, hQ => by
    simp only [cregP] at hl
    split at hl
    · rename_i g l' hg hl'
      injection hl with hl; subst hl
      have ho : ops[k]? = some o := by simpa using hix 0 o (by simp)
      simp only [List.length_cons, List.range'_succ, List.cons_append, wpOpsIn, ho]
      have hix' : ∀ j o', os[j]? = some o' → ops[k + 1 + j]? = some o' := fun j o' hj => by have := hix (j + 1) o' (by simpa using hj); simpa [Nat.add_assoc, Nat.add_comm 1] using this
      have hnd' := hnd.imp id fun q => noDefers_at q ho
      simp only [awops] at h
      split at h
      · rename_i hwt
        rw [wanted_rel hE hg hwt, if_pos rfl]
        have hgo : ∀ v s1 ρ' w' c, awops call base l' Qa (putE env o.dst v) s1 → Step s s1 ρ ρ' w w' → R s1 ρ' w' → VR ρ' v c → wpOpsIn (fenceAt ro) n P ops Q (List.range' (k + 1) os.length ++ rest) (a.put o.dst c) w' := by
          intro v s1 ρ' w' c hrest hst hr hv
          refine awops_in (df := df) hS hnd os (k + 1) l' _ s1 ρ' _ w' hix' hl' hrest ((hE.step hf hst).put hv o.dst) hr (hf.step hst) ?_ ?_
          · cases hdst : o.dst <;> simpa [Act.put] using hd
          · intro env2 s2 ρ2 a2 w2 hq2 hst2 hr2 hf2 hE2 hd2
            exact hQ env2 s2 ρ2 a2 w2 hq2 (hst.trans hst2) hr2 hf2 hE2 hd2
        split at h
        · rename_i x hopx
          exact oper_in hnd' (next_wp hE hR hopx h fun v s1 w' c hrest hst hr hv => hgo v s1 ρ w' c hrest hst hr hv)
        · split at h
          · rename_i v s1 hop
            exact oper_in hnd' (aop_wp hS hE hR hf hop fun ρ' w' c hst hr hv => hgo v s1 ρ' w' c h hst hr hv)
          · exact h.elim
      · rename_i hwt
        rw [wanted_rel hE hg hwt, if_neg (by simp)]
        refine ⟨fun _ _ => trivial, awops_in (df := df) hS hnd os (k + 1) l' _ s ρ _ w hix' hl' h (hE.put (by simp [VR]) o.dst) hR hf ?_ hQ⟩
        cases hdst : o.dst <;> simpa [Act.put] using hd
      · exact h.elim
    · cases hl
theorem regd_in {call : Nat → List AV → St → Option (AV × St)} (hS : Sound P call) (hm : P.follows .mixedOrders = true) {id : Nat} {ops : Array Oper} {l : List AOper} {k m : Nat} {env env' : Env} {s s' : St} {a : Act} {w : World} {Q : Exit → Act → World → Prop} {df : List Deferred} (hnd : ro = none ∨ noDefers ops = true)
    (hcreg : cregD P (ancs ops) ops ops.toList 0 0 = some (l, m)) (hdraw : drawOk (ancs ops) ops l k = true) (h : aops call s.next l env (s.reserve k) = some (env', s')) (hE : EnvR ρ env a.tmps) (hR : R s ρ w) (hf : Free s ρ) (hd : a.defers = df)
    (hQ : ∀ ρ' a' w', Step s s' ρ ρ' w w' → R s' ρ' w' → Free s' ρ' → EnvR ρ' env' a'.tmps → a'.defers = df → Q .normal a' w') : (Code.region id ops true).wpIn (fenceAt ro) n P Q a w := by
  refine wpIn_mono (Q := fun e a w => e = .normal ∧ Q e a w) (wpIn_region_any hm (any_in hnd ?_ _ _ _ _ (regd_any hS hcreg hdraw h hE hR hf hd fun ρ' a' w' g1 g2 g3 g4 g5 => ⟨rfl, hQ ρ' a' w' g1 g2 g3 g4 g5⟩))) fun e a w q => q.2
  rintro ⟨_, _, h, _⟩
  cases h

theorem regw_in {call : Nat → List AV → St → Option (AV × St)} (hS : Sound P call) (hm : P.follows .mixedOrders = true) {id : Nat} {ops : Array Oper} {l : List AOper} {chk : List (Nat × Nat)} {env env' : Env} {s s' : St} {a : Act} {w : World} {Q : Exit → Act → World → Prop} {df : List Deferred} (hnd : ro = none ∨ noDefers ops = true)
    (hcreg : cregW P ops = some (l, chk)) (h : aops call s.next l env s = some (env', s')) (hc : chkP chk s env') (hE : EnvR ρ env a.tmps) (hR : R s ρ w) (hf : Free s ρ) (hd : a.defers = df)
    (hQ : ∀ ρ' a' w', Step s s' ρ ρ' w w' → R s' ρ' w' → Free s' ρ' → EnvR ρ' env' a'.tmps → a'.defers = df → Q .normal a' w') : (Code.region id ops true).wpIn (fenceAt ro) n P Q a w := by
  refine wpIn_mono (Q := fun e a w => e = .normal ∧ Q e a w) (wpIn_region_any hm (any_in hnd ?_ _ _ _ _ (regw_any hS hcreg h hc hE hR hf hd fun ρ' a' w' g1 g2 g3 g4 g5 => ⟨rfl, hQ ρ' a' w' g1 g2 g3 g4 g5⟩))) fun e a w q => q.2
  rintro ⟨_, _, h, _⟩
  cases h
theorem awp_in {call : Nat → List AV → St → Option (AV × St)} (hS : Sound P call) (hm : P.follows .mixedOrders = true) {df : List Deferred} : ∀ (c : Code) (Qa : AEx → Env → St → Prop) (env : Env) (s : St) (ρ : Ren) (a : Act) (w : World) (Q : Exit → Act → World → Prop), ro = none ∨ noDefer c = true →
    awp call (ccode P c) Qa env s → EnvR ρ env a.tmps → R s ρ w → Free s ρ → a.defers = df →
    (∀ x env' s' ρ' a' w', Qa x env' s' → Step s s' ρ ρ' w w' → R s' ρ' w' → Free s' ρ' → EnvR ρ' env' a'.tmps → a'.defers = df → Q x.out a' w') → c.wpIn (fenceAt ro) n P Q a w := by
  intro c
  induction c with
  | skip =>
    intro Qa env s ρ a w Q _ h hE hR hf hd hQ
    simp only [ccode, awp] at h
    exact wpIn_skip (hQ .nor env s ρ a w h (.refl _ _ _) hR hf hE hd)
  | exit id =>
    intro Qa env s ρ a w Q _ h hE hR hf hd hQ
    simp only [ccode, awp] at h
    exact wpIn_exit (hQ (.exit id) env s ρ a w h (.refl _ _ _) hR hf hE hd)
  | ret =>
    intro Qa env s ρ a w Q _ h hE hR hf hd hQ
    simp only [ccode, awp] at h
    exact wpIn_ret (hQ .ret env s ρ a w h (.refl _ _ _) hR hf hE hd)
  | seq c d ihc ihd =>
    intro Qa env s ρ a w Q hnd h hE hR hf hd hQ
    simp only [ccode, awp] at h
    have hnd1 : ro = none ∨ noDefer c = true := hnd.imp id fun q => by simp only [noDefer, Bool.and_eq_true] at q; exact q.1
    have hnd2 : ro = none ∨ noDefer d = true := hnd.imp id fun q => by simp only [noDefer, Bool.and_eq_true] at q; exact q.2
    refine wpIn_seq (ihc _ env s ρ a w _ hnd1 h hE hR hf hd fun x env1 s1 ρ1 a1 w1 hx g1 g2 g3 g4 g5 => ?_)
    cases x with
    | nor => exact ihd Qa env1 s1 ρ1 a1 w1 Q hnd2 hx g4 g2 g3 g5 fun y env2 s2 ρ2 a2 w2 hy k1 k2 k3 k4 k5 => hQ y env2 s2 ρ2 a2 w2 hy (g1.trans k1) k2 k3 k4 k5
    | exit id => exact hQ (.exit id) env1 s1 ρ1 a1 w1 hx g1 g2 g3 g4 g5
    | ret => exact hQ .ret env1 s1 ρ1 a1 w1 hx g1 g2 g3 g4 g5
  | cond q c d ihc ihd =>
    intro Qa env s ρ a w Q hnd h hE hR hf hd hQ
    have hnd1 : ro = none ∨ noDefer c = true := hnd.imp id fun q => by simp only [noDefer, Bool.and_eq_true] at q; exact q.1
    have hnd2 : ro = none ∨ noDefer d = true := hnd.imp id fun q => by simp only [noDefer, Bool.and_eq_true] at q; exact q.2
    simp only [ccode] at h
    split at h
    · rename_i hok
      simp only [awp] at h
      have hv := aev_rel hE hok
      split at h
      · rename_i hb
        rw [hb] at hv
        simp only [VR] at hv
        exact wpIn_cond_true hv (ihc Qa env s ρ a w Q hnd1 h hE hR hf hd hQ)
      · rename_i hb
        rw [hb] at hv
        simp only [VR] at hv
        exact wpIn_cond_false hv (ihd Qa env s ρ a w Q hnd2 h hE hR hf hd hQ)
      · exact h.elim
    · simp only [awp] at h
  | block id c ih =>
    intro Qa env s ρ a w Q hnd h hE hR hf hd hQ
    simp only [ccode, awp] at h
    refine wpIn_block (ih _ env s ρ a w _ hnd h hE hR hf hd fun x env1 s1 ρ1 a1 w1 hx g1 g2 g3 g4 g5 => ?_)
    cases x with
    | nor => exact hQ .nor env1 s1 ρ1 a1 w1 hx g1 g2 g3 g4 g5
    | exit i =>
      simp only at hx
      by_cases hi : i = id
      · rw [if_pos hi] at hx
        simp only [AEx.out, Exit.inBlock, if_pos hi]
        exact hQ .nor env1 s1 ρ1 a1 w1 hx g1 g2 g3 g4 g5
      · rw [if_neg hi] at hx
        simp only [AEx.out, Exit.inBlock, if_neg hi]
        exact hQ (.exit i) env1 s1 ρ1 a1 w1 hx g1 g2 g3 g4 g5
    | ret => exact hQ .ret env1 s1 ρ1 a1 w1 hx g1 g2 g3 g4 g5
  | loop c ih =>
    intro Qa env s ρ a w Q hnd h hE hR hf hd hQ
    simp only [ccode, awp] at h
    obtain ⟨m, h⟩ := h
    refine wpIn_loop_rounds m ?_
    induction m generalizing env s ρ a w with
    | zero => exact h.elim
    | succ m ihn =>
      simp only [arounds] at h
      simp only [Code.roundsIn]
      refine ih _ env s ρ a w _ hnd h hE hR hf hd fun x env1 s1 ρ1 a1 w1 hx g1 g2 g3 g4 g5 => ?_
      cases x with
      | nor => exact ihn env1 s1 ρ1 a1 w1 g4 g2 g3 g5 (fun y env2 s2 ρ2 a2 w2 hy k1 k2 k3 k4 k5 => hQ y env2 s2 ρ2 a2 w2 hy (g1.trans k1) k2 k3 k4 k5) hx
      | exit id => exact hQ (.exit id) env1 s1 ρ1 a1 w1 hx g1 g2 g3 g4 g5
      | ret => exact hQ .ret env1 s1 ρ1 a1 w1 hx g1 g2 g3 g4 g5
  | region id ops draw =>
    intro Qa env s ρ a w Q hnd h hE hR hf hd hQ
    cases draw
    · simp only [ccode] at h
      split at h
      · rename_i l hl
        simp only [awp] at h
        refine wpIn_region ?_
        rw [List.range_eq_range']
        have := awops_in (n := n) (Q := Q) (rest := []) hS hnd ops.toList 0 l env s ρ a w (fun j o hj => by simpa using hj) hl h hE hR hf hd fun env' s' ρ' a' w' hq g1 g2 g3 g4 g5 => hQ .nor env' s' ρ' a' w' hq g1 g2 g3 g4 g5
        simpa using this
      · simp only [awp] at h
    · simp only [ccode, cdraw] at h
      split at h
      · rename_i l chk hl
        simp only [awp] at h
        obtain ⟨env1, s1, ho, hck, hq⟩ := h
        exact regw_in hS hm hnd hl ho hck hE hR hf hd fun ρ' a' w' g1 g2 g3 g4 g5 => hQ .nor env1 s1 ρ' a' w' hq g1 g2 g3 g4 g5
      split at h
      · rename_i l k hl
        split at h
        · rename_i hdr
          simp only [awp] at h
          obtain ⟨env1, s1, ho, hq⟩ := h
          exact regd_in hS hm hnd hl hdr ho hE hR hf hd fun ρ' a' w' g1 g2 g3 g4 g5 => hQ .nor env1 s1 ρ' a' w' hq g1 g2 g3 g4 g5
        · simp only [awp] at h
      · simp only [awp] at h
  | _ =>
    intro Qa env s ρ a w Q _ h hE hR hf hd hQ
    simp only [ccode, awp] at h

end Go.AM
end
