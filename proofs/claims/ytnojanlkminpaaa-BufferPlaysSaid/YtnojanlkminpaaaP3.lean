/-
  The program's and the reference's small functions of dots and nodes. Own work of this project; in part printed by a program of it.
-/
import Derived.Test.YtnojanlkminpaaaP2
import Derived.Shelf.SlSortCmp.WholeK
import Derived.Ground.SlsfProg
import Derived.Shelf.SlGeneric
import Derived.Test.YtnojanlkminpaaaProg
import Derived.Shelf.SlSortCmp.NoneTotal
section
set_option linter.unusedVariables false
set_option linter.unusedSimpArgs false
set_option maxRecDepth 100000
namespace Go.AM
open Go Go.Proofs

def Dot.before (a b : Dot) : Bool := decide (a.c < b.c) || decide (a.c = b.c) && decide (a.r < b.r)
def asDot : AV → Option Dot
  | .agg cs => dotC.dec cs
  | _ => none
def asNd : AV → Option Nd
  | .agg cs => ndC.dec cs
  | _ => none
theorem asDot_some {v : AV} {d : Dot} (h : asDot v = some d) : v = .agg (Dot.av d) := by
  cases v <;> simp only [asDot] at h <;> first | (cases h; done) | exact congrArg AV.agg (dotC.enc_dec _ _ h)
theorem asNd_some {v : AV} {d : Nd} (h : asNd v = some d) : v = .agg (Nd.av d) := by
  cases v <;> simp only [asNd] at h <;> first | (cases h; done) | exact congrArg AV.agg (ndC.enc_dec _ _ h)
theorem asDot_av (d : Dot) : asDot (.agg (Dot.av d)) = some d := rfl
theorem asNd_av (d : Nd) : asNd (.agg (Nd.av d)) = some d := rfl
/-- Functions of a dot, of two, of a node, of two. -/
def conD (f : Dot → AV) : Con := fun xs s => match xs with
  | [.agg cs] => match dotC.dec cs with
    | some d => some (f d, s.lowed)
    | none => none
  | _ => none
def conDD (f : Dot → Dot → AV) : Con := fun xs s => match xs with
  | [.agg a, .agg b] => match dotC.dec a, dotC.dec b with
    | some d, some e => some (f d e, s.lowed)
    | _, _ => none
  | _ => none
def conN (f : Nd → AV) : Con := fun xs s => match xs with
  | [.agg cs] => match ndC.dec cs with
    | some d => some (f d, s.lowed)
    | none => none
  | _ => none
def conNN (f : Nd → Nd → AV) : Con := fun xs s => match xs with
  | [.agg a, .agg b] => match ndC.dec a, ndC.dec b with
    | some d, some e => some (f d e, s.lowed)
    | _, _ => none
  | _ => none
theorem conD_some {f : Dot → AV} {xs : List AV} {s : St} {r : AV} {s' : St} (h : conD f xs s = some (r, s')) : ∃ d, xs = [.agg (Dot.av d)] ∧ r = f d ∧ s' = s.lowed := by
  unfold conD at h
  split at h
  · split at h
    · rename_i cs d hd
      injection h with h
      obtain ⟨rfl, rfl⟩ := Prod.mk.inj h
      have := dotC.enc_dec _ _ hd
      exact ⟨d, by rw [this]; rfl, rfl, rfl⟩
    · cases h
  · cases h
theorem conN_some {f : Nd → AV} {xs : List AV} {s : St} {r : AV} {s' : St} (h : conN f xs s = some (r, s')) : ∃ d, xs = [.agg (Nd.av d)] ∧ r = f d ∧ s' = s.lowed := by
  unfold conN at h
  split at h
  · split at h
    · rename_i cs d hd
      injection h with h
      obtain ⟨rfl, rfl⟩ := Prod.mk.inj h
      have := ndC.enc_dec _ _ hd
      exact ⟨d, by rw [this]; rfl, rfl, rfl⟩
    · cases h
  · cases h
theorem conDD_some {f : Dot → Dot → AV} {xs : List AV} {s : St} {r : AV} {s' : St} (h : conDD f xs s = some (r, s')) : ∃ d e, xs = [.agg (Dot.av d), .agg (Dot.av e)] ∧ r = f d e ∧ s' = s.lowed := by
  unfold conDD at h
  split at h
  · split at h
    · rename_i a b d e hd he
      injection h with h
      obtain ⟨rfl, rfl⟩ := Prod.mk.inj h
      have h1 := dotC.enc_dec _ _ hd
      have h2 := dotC.enc_dec _ _ he
      exact ⟨d, e, by rw [h1, h2]; rfl, rfl, rfl⟩
    · cases h
  · cases h
theorem conNN_some {f : Nd → Nd → AV} {xs : List AV} {s : St} {r : AV} {s' : St} (h : conNN f xs s = some (r, s')) : ∃ d e, xs = [.agg (Nd.av d), .agg (Nd.av e)] ∧ r = f d e ∧ s' = s.lowed := by
  unfold conNN at h
  split at h
  · split at h
    · rename_i a b d e hd he
      injection h with h
      obtain ⟨rfl, rfl⟩ := Prod.mk.inj h
      have h1 := ndC.enc_dec _ _ hd
      have h2 := ndC.enc_dec _ _ he
      exact ⟨d, e, by rw [h1, h2]; rfl, rfl, rfl⟩
    · cases h
  · cases h
theorem conD_call (f : Dot → AV) (hf : ∀ d, (f d).ground = true) (cl : Bool) (d : Dot) (s : St) : acall (conD f) cl [.agg (Dot.av d)] s = some (f d, s) := acall_rol rfl (hf d)
theorem conN_call (f : Nd → AV) (hf : ∀ d, (f d).ground = true) (cl : Bool) (d : Nd) (s : St) : acall (conN f) cl [.agg (Nd.av d)] s = some (f d, s) := acall_rol rfl (hf d)
theorem conDD_call (f : Dot → Dot → AV) (hf : ∀ d e, (f d e).ground = true) (cl : Bool) (d e : Dot) (s : St) : acall (conDD f) cl [.agg (Dot.av d), .agg (Dot.av e)] s = some (f d e, s) := acall_rol rfl (hf d e)
theorem conNN_call (f : Nd → Nd → AV) (hf : ∀ d e, (f d e).ground = true) (cl : Bool) (d e : Nd) (s : St) : acall (conNN f) cl [.agg (Nd.av d), .agg (Nd.av e)] s = some (f d e, s) := acall_rol rfl (hf d e)

theorem Dot.mk_eq (d : Dot) (a b : Int) : (d = ⟨a, b⟩) = (d.r = a ∧ d.c = b) := by cases d; simp
def conR (f : Int → AV) : Con := fun xs s => match xs with
  | [.int .i32 x] => some (f x, s.lowed)
  | _ => none
theorem conR_some {f : Int → AV} {xs : List AV} {s : St} {r : AV} {s' : St} (h : conR f xs s = some (r, s')) : ∃ x, xs = [.int .i32 x] ∧ r = f x ∧ s' = s.lowed := by
  unfold conR at h
  split at h
  · injection h with h
    obtain ⟨rfl, rfl⟩ := Prod.mk.inj h
    exact ⟨_, rfl, rfl, rfl⟩
  · cases h
theorem conR_call (f : Int → AV) (hf : ∀ d, (f d).ground = true) (cl : Bool) (d : Int) (s : St) : acall (conR f) cl [.int .i32 d] s = some (f d, s) := acall_rol rfl (hf d)
set_option maxHeartbeats 4000000
def fBefore (a b : Dot) : AV := .bool (a.before b)
theorem q_Before (cl : Bool) (a b : Dot) (s : St) : acall (conDD fBefore) cl [.agg (Dot.av a), .agg (Dot.av b)] s = some (.bool (a.before b), s) := conDD_call fBefore (fun _ _ => by first | rfl | (unfold fBefore; split <;> rfl)) cl a b s
set_option maxHeartbeats 4000000 in
theorem s_Before : SoundAt Try.prog 43 (conDD fBefore) :=
  con_keep (tb_sound (l := []) (by simp)) mixed Try.func43 k43 c43 fun args s r s' h => by
    obtain ⟨a, b, rfl, rfl, rfl⟩ := conDD_some h
    refine ⟨rfl, rfl, by simp [a43], fun env hlen ha => ?_⟩
    have h0 : E env 0 = _ := ha 0 _ rfl
    have h1 : E env 1 = _ := ha 1 _ rfl
    have hlen : elen env = _ := hlen
    simp only [a43] at hlen
    unfold a43
    try dsimp only [oO, oG]
    simp (config := {contextual := true, maxDischargeDepth := 12}) only [tb, h0, h1, hlen, ↓bD, bU, forall_const, List.all_cons, List.all_nil, Option.map_some, List.map_cons, List.map_nil, ne_eq, implies_true, isNx, cstep_bool, ↓wp_cond, ↓reduceIte, reduceCtorEq, Nat.reduceEqDiff, Nat.reduceLT, Nat.reduceAdd, Nat.reduceMul]
    simp [fBefore, Dot.before]
def fIsDot (d : Dot) : AV := .bool d.valid
theorem q_IsDot (cl : Bool) (d : Dot) (s : St) : acall (conD fIsDot) cl [.agg (Dot.av d)] s = some (.bool d.valid, s) := conD_call fIsDot (fun _ => by first | rfl | (unfold fIsDot; split <;> rfl)) cl d s
set_option maxHeartbeats 4000000 in
theorem s_IsDot : SoundAt Try.prog 58 (conD fIsDot) :=
  con_keep (tb_sound (l := []) (by simp)) mixed Try.func58 k58 c58 fun args s r s' h => by
    obtain ⟨d, rfl, rfl, rfl⟩ := conD_some h
    refine ⟨rfl, rfl, by simp [a58], fun env hlen ha => ?_⟩
    have h0 : E env 0 = _ := ha 0 _ rfl
    have hlen : elen env = _ := hlen
    simp only [a58] at hlen
    unfold a58
    try dsimp only [oO, oG]
    simp (config := {contextual := true, maxDischargeDepth := 12}) only [tb, h0, hlen, ↓bD, bU, forall_const, List.all_cons, List.all_nil, Option.map_some, List.map_cons, List.map_nil, ne_eq, implies_true, isNx, cstep_bool, ↓wp_cond, ↓reduceIte, reduceCtorEq, Nat.reduceEqDiff, Nat.reduceLT, Nat.reduceAdd, Nat.reduceMul]
    simp [fIsDot, Dot.valid]
def fDotValid (d : Dot) : AV := .bool d.valid
theorem q_DotValid (cl : Bool) (d : Dot) (s : St) : acall (conD fDotValid) cl [.agg (Dot.av d)] s = some (.bool d.valid, s) := conD_call fDotValid (fun _ => by first | rfl | (unfold fDotValid; split <;> rfl)) cl d s
set_option maxHeartbeats 4000000 in
theorem s_DotValid : SoundAt Try.prog 63 (conD fDotValid) :=
  con_keep (tb_sound (l := []) (by simp)) mixed Try.func63 k63 c63 fun args s r s' h => by
    obtain ⟨d, rfl, rfl, rfl⟩ := conD_some h
    refine ⟨rfl, rfl, by simp [a63], fun env hlen ha => ?_⟩
    have h0 : E env 0 = _ := ha 0 _ rfl
    have hlen : elen env = _ := hlen
    simp only [a63] at hlen
    unfold a63
    try dsimp only [oO, oG]
    simp (config := {contextual := true, maxDischargeDepth := 12}) only [tb, h0, hlen, ↓bD, bU, forall_const, List.all_cons, List.all_nil, Option.map_some, List.map_cons, List.map_nil, ne_eq, implies_true, isNx, cstep_bool, ↓wp_cond, ↓reduceIte, reduceCtorEq, Nat.reduceEqDiff, Nat.reduceLT, Nat.reduceAdd, Nat.reduceMul]
    simp [fDotValid, Dot.valid]
def fDotRoot (d : Dot) : AV := .bool d.root
theorem q_DotRoot (cl : Bool) (d : Dot) (s : St) : acall (conD fDotRoot) cl [.agg (Dot.av d)] s = some (.bool d.root, s) := conD_call fDotRoot (fun _ => by first | rfl | (unfold fDotRoot; split <;> rfl)) cl d s
set_option maxHeartbeats 4000000 in
theorem s_DotRoot : SoundAt Try.prog 64 (conD fDotRoot) :=
  con_keep (tb_sound (l := []) (by simp)) mixed Try.func64 k64 c64 fun args s r s' h => by
    obtain ⟨d, rfl, rfl, rfl⟩ := conD_some h
    refine ⟨rfl, rfl, by simp [a64], fun env hlen ha => ?_⟩
    have h0 : E env 0 = _ := ha 0 _ rfl
    have hlen : elen env = _ := hlen
    simp only [a64] at hlen
    unfold a64
    try dsimp only [oO, oG]
    simp (config := {contextual := true, maxDischargeDepth := 12}) only [tb, h0, hlen, ↓bD, bU, forall_const, List.all_cons, List.all_nil, Option.map_some, List.map_cons, List.map_nil, ne_eq, implies_true, isNx, cstep_bool, ↓wp_cond, ↓reduceIte, reduceCtorEq, Nat.reduceEqDiff, Nat.reduceLT, Nat.reduceAdd, Nat.reduceMul]
    simp [fDotRoot, Dot.root, Dot.mk_eq]
def fIsRune (x : Int) : AV := .bool (goodRune x)
theorem q_IsRune (cl : Bool) (x : Int) (s : St) : acall (conR fIsRune) cl [.int .i32 x] s = some (.bool (goodRune x), s) := conR_call fIsRune (fun _ => by first | rfl | (unfold fIsRune; split <;> rfl)) cl x s
set_option maxHeartbeats 4000000 in
theorem s_IsRune : SoundAt Try.prog 59 (conR fIsRune) :=
  con_keep (tb_sound (l := []) (by simp)) mixed Try.func59 k59 c59 fun args s r s' h => by
    obtain ⟨x, rfl, rfl, rfl⟩ := conR_some h
    refine ⟨rfl, rfl, by simp [a59], fun env hlen ha => ?_⟩
    have h0 : E env 0 = _ := ha 0 _ rfl
    have hlen : elen env = _ := hlen
    simp only [a59] at hlen
    unfold a59
    try dsimp only [oO, oG]
    simp (config := {contextual := true, maxDischargeDepth := 12}) only [tb, h0, hlen, ↓bD, bU, forall_const, List.all_cons, List.all_nil, Option.map_some, List.map_cons, List.map_nil, ne_eq, implies_true, isNx, cstep_bool, ↓wp_cond, ↓reduceIte, reduceCtorEq, Nat.reduceEqDiff, Nat.reduceLT, Nat.reduceAdd, Nat.reduceMul]
    simp only [fIsRune, Option.some.injEq, AV.bool.injEq, and_true]
    rw [Bool.eq_iff_iff]
    simp [goodRune, validRune]
    omega
def fDead (n : Nd) : AV := .bool (decide (n.x = 0))
theorem q_Dead (cl : Bool) (n : Nd) (s : St) : acall (conN fDead) cl [.agg (Nd.av n)] s = some (.bool (decide (n.x = 0)), s) := conN_call fDead (fun _ => by first | rfl | (unfold fDead; split <;> rfl)) cl n s
set_option maxHeartbeats 4000000 in
theorem s_Dead : SoundAt Try.prog 53 (conN fDead) :=
  con_keep (tb_sound (l := []) (by simp)) mixed Try.func53 k53 c53 fun args s r s' h => by
    obtain ⟨n, rfl, rfl, rfl⟩ := conN_some h
    refine ⟨rfl, rfl, by simp [a53], fun env hlen ha => ?_⟩
    have h0 : E env 0 = _ := ha 0 _ rfl
    have hlen : elen env = _ := hlen
    simp only [a53] at hlen
    unfold a53
    try dsimp only [oO, oG]
    simp (config := {contextual := true, maxDischargeDepth := 12}) only [tb, h0, hlen, ↓bD, bU, forall_const, List.all_cons, List.all_nil, Option.map_some, List.map_cons, List.map_nil, ne_eq, implies_true, isNx, cstep_bool, ↓wp_cond, ↓reduceIte, reduceCtorEq, Nat.reduceEqDiff, Nat.reduceLT, Nat.reduceAdd, Nat.reduceMul]
    simp [fDead]
def fKill (n : Nd) : AV := .agg (Nd.av { n with x := 0 })
theorem q_Kill (cl : Bool) (n : Nd) (s : St) : acall (conN fKill) cl [.agg (Nd.av n)] s = some (.agg (Nd.av { n with x := 0 }), s) := conN_call fKill (fun _ => by first | rfl | (unfold fKill; split <;> rfl)) cl n s
set_option maxHeartbeats 4000000 in
theorem s_Kill : SoundAt Try.prog 52 (conN fKill) :=
  con_keep (tb_sound (l := []) (by simp)) mixed Try.func52 k52 c52 fun args s r s' h => by
    obtain ⟨n, rfl, rfl, rfl⟩ := conN_some h
    refine ⟨rfl, rfl, by simp [a52], fun env hlen ha => ?_⟩
    have h0 : E env 0 = _ := ha 0 _ rfl
    have hlen : elen env = _ := hlen
    simp only [a52] at hlen
    unfold a52
    try dsimp only [oO, oG]
    simp (config := {contextual := true, maxDischargeDepth := 12}) only [tb, h0, hlen, ↓bD, bU, forall_const, List.all_cons, List.all_nil, Option.map_some, List.map_cons, List.map_nil, ne_eq, implies_true, isNx, cstep_bool, ↓wp_cond, ↓reduceIte, reduceCtorEq, Nat.reduceEqDiff, Nat.reduceLT, Nat.reduceAdd, Nat.reduceMul]
    simp [fKill]
theorem q_goodRune0 (cl : Bool) (x : Int) (s : St) : acall cGoodRune cl [.int .i32 x] s = some (.bool (goodRune x), s) := acall_ro rfl rfl
def Nd.valid (n : Nd) : Bool :=
  n.d.valid && (n.p.root || n.p.valid) && !decide (n.p = n.d) && decide (1 ≤ n.t) && decide (n.t ≤ 4611686018427387904) && (decide (n.x = 0) || goodRune n.x)
def fNodeValid (n : Nd) : AV := .bool n.valid
theorem q_NodeValid (cl : Bool) (n : Nd) (s : St) : acall (conN fNodeValid) cl [.agg (Nd.av n)] s = some (.bool n.valid, s) := conN_call fNodeValid (fun _ => by first | rfl | (unfold fNodeValid; split <;> rfl)) cl n s
set_option maxHeartbeats 4000000 in
theorem s_NodeValid : SoundAt Try.prog 51 (conN fNodeValid) :=
  con_keep (tb_sound (l := [(63, conD fDotValid), (64, conD fDotRoot), (53, conN fDead), (65, cGoodRune)]) (by simpa using ⟨s_DotValid, s_DotRoot, s_Dead, s_goodRune⟩)) mixed Try.func51 k51 c51 fun args s r s' h => by
    obtain ⟨n, rfl, rfl, rfl⟩ := conN_some h
    refine ⟨rfl, rfl, by simp [a51], fun env hlen ha => ?_⟩
    have h0 : E env 0 = _ := ha 0 _ rfl
    have hlen : elen env = _ := hlen
    simp only [a51] at hlen
    unfold a51
    try dsimp only [oO, oG]
    simp (config := {contextual := true, maxDischargeDepth := 12}) only [tb, q_DotValid, q_DotRoot, q_Dead, q_goodRune0, h0, hlen, ↓bD, bU, forall_const, List.all_cons, List.all_nil, Option.map_some, List.map_cons, List.map_nil, ne_eq, implies_true, isNx, cstep_bool, ↓wp_cond, ↓reduceIte, reduceCtorEq, Nat.reduceEqDiff, Nat.reduceLT, Nat.reduceAdd, Nat.reduceMul]
    simp [fNodeValid, Nd.valid]
def fIsNode (n : Nd) : AV := .bool n.valid
theorem q_IsNode (cl : Bool) (n : Nd) (s : St) : acall (conN fIsNode) cl [.agg (Nd.av n)] s = some (.bool n.valid, s) := conN_call fIsNode (fun _ => by first | rfl | (unfold fIsNode; split <;> rfl)) cl n s
set_option maxHeartbeats 4000000 in
theorem s_IsNode : SoundAt Try.prog 42 (conN fIsNode) :=
  con_keep (tb_sound (l := [(58, conD fIsDot), (59, conR fIsRune)]) (by simpa using ⟨s_IsDot, s_IsRune⟩)) mixed Try.func42 k42 c42 fun args s r s' h => by
    obtain ⟨n, rfl, rfl, rfl⟩ := conN_some h
    refine ⟨rfl, rfl, by simp [a42], fun env hlen ha => ?_⟩
    have h0 : E env 0 = _ := ha 0 _ rfl
    have hlen : elen env = _ := hlen
    simp only [a42] at hlen
    unfold a42
    try dsimp only [oO, oG]
    simp (config := {contextual := true, maxDischargeDepth := 12}) only [tb, q_IsDot, q_IsRune, h0, hlen, ↓bD, bU, forall_const, List.all_cons, List.all_nil, Option.map_some, List.map_cons, List.map_nil, ne_eq, implies_true, isNx, cstep_bool, ↓wp_cond, ↓reduceIte, reduceCtorEq, Nat.reduceEqDiff, Nat.reduceLT, Nat.reduceAdd, Nat.reduceMul]
    simp [fIsNode, Nd.valid, Dot.root, Dot.mk_eq]
def fInvalid (n : Nd) : AV := .bool (!n.valid)
theorem q_Invalid (cl : Bool) (n : Nd) (s : St) : acall (conN fInvalid) cl [.agg (Nd.av n)] s = some (.bool (!n.valid), s) := conN_call fInvalid (fun _ => by first | rfl | (unfold fInvalid; split <;> rfl)) cl n s
set_option maxHeartbeats 4000000 in
theorem s_Invalid : SoundAt Try.prog 55 (conN fInvalid) :=
  con_keep (tb_sound (l := [(51, conN fNodeValid)]) (by simpa using s_NodeValid)) mixed Try.func55 k55 c55 fun args s r s' h => by
    obtain ⟨n, rfl, rfl, rfl⟩ := conN_some h
    refine ⟨rfl, rfl, by simp [a55], fun env hlen ha => ?_⟩
    have h0 : E env 0 = _ := ha 0 _ rfl
    have hlen : elen env = _ := hlen
    simp only [a55] at hlen
    unfold a55
    try dsimp only [oO, oG]
    simp (config := {contextual := true, maxDischargeDepth := 12}) only [tb, q_NodeValid, h0, hlen, ↓bD, bU, forall_const, List.all_cons, List.all_nil, Option.map_some, List.map_cons, List.map_nil, ne_eq, implies_true, isNx, cstep_bool, ↓wp_cond, ↓reduceIte, reduceCtorEq, Nat.reduceEqDiff, Nat.reduceLT, Nat.reduceAdd, Nat.reduceMul]
    simp [fInvalid]
/-- Two nodes with one dot. -/
def Nd.clash (a b : Nd) : Bool := !decide (a.d = b.d ∧ a.p = b.p ∧ a.t = b.t ∧ (a.x = 0 ∨ b.x = 0 ∨ a.x = b.x))
theorem Nd.clash_false (a b : Nd) : (a.clash b = false) = (a.d = b.d ∧ a.p = b.p ∧ a.t = b.t ∧ (a.x = 0 ∨ b.x = 0 ∨ a.x = b.x)) := by simp only [Nd.clash, Bool.not_eq_false', decide_eq_true_eq]
theorem Nd.clash_true (a b : Nd) : (a.clash b = true) = ¬ (a.d = b.d ∧ a.p = b.p ∧ a.t = b.t ∧ (a.x = 0 ∨ b.x = 0 ∨ a.x = b.x)) := by simp only [Nd.clash, Bool.not_eq_true', decide_eq_false_iff_not]
theorem Nd.kill_eq (a b : Nd) : ((⟨a.d, a.p, a.t, 0⟩ : Nd) = ⟨b.d, b.p, b.t, 0⟩) = (a.d = b.d ∧ a.p = b.p ∧ a.t = b.t) := by simp
theorem Nd.eq_iff (a b : Nd) : (a = b) = (a.d = b.d ∧ a.p = b.p ∧ a.t = b.t ∧ a.x = b.x) := by cases a; cases b; simp
def Nd.merge (a b : Nd) : Nd := if b.x = 0 then b else a
def nd0 : Nd := ⟨⟨0, 0⟩, ⟨0, 0⟩, 0, 0⟩
def mergeV (a b : Nd) : AV :=
  if a.valid = false ∨ b.valid = false then .tup [.agg (Nd.av nd0), .int .i64 2]
  else if a.clash b = true then .tup [.agg (Nd.av nd0), .int .i64 15]
  else .tup [.agg (Nd.av (a.merge b)), .int .i64 0]
theorem mergeV_ground (a b : Nd) : (mergeV a b).ground = true := by
  unfold mergeV
  split
  · rfl
  · split <;> rfl
def refMergeV (a b : Nd) : AV := if a.clash b = true then .tup [.agg (Nd.av nd0), .bool false] else .tup [.agg (Nd.av (a.merge b)), .bool true]
theorem refMergeV_ground (a b : Nd) : (refMergeV a b).ground = true := by
  unfold refMergeV
  split <;> rfl
def fMerge (a b : Nd) : AV := mergeV a b
theorem q_Merge (cl : Bool) (a b : Nd) (s : St) : acall (conNN fMerge) cl [.agg (Nd.av a), .agg (Nd.av b)] s = some (mergeV a b, s) := conNN_call fMerge mergeV_ground cl a b s
set_option maxHeartbeats 4000000 in
theorem s_Merge : SoundAt Try.prog 39 (conNN fMerge) :=
  con_keep (tb_sound (l := [(51, conN fNodeValid), (52, conN fKill), (53, conN fDead)]) (by simpa using ⟨s_NodeValid, s_Kill, s_Dead⟩)) mixed Try.func39 k39 c39 fun args s r s' h => by
    obtain ⟨a, b, rfl, rfl, rfl⟩ := conNN_some h
    refine ⟨rfl, mergeV_ground _ _, by simp [a39], fun env hlen ha => ?_⟩
    have h0 : E env 0 = _ := ha 0 _ rfl
    have h1 : E env 1 = _ := ha 1 _ rfl
    have hlen : elen env = _ := hlen
    simp only [a39] at hlen
    unfold a39
    try dsimp only [oO, oG]
    simp (config := {contextual := true, maxDischargeDepth := 12}) only [tb, q_NodeValid, q_Kill, q_Dead, h0, h1, hlen, ↓bD, bU, forall_const, List.all_cons, List.all_nil, Option.map_some, List.map_cons, List.map_nil, ne_eq, implies_true, isNx, cstep_bool, ↓wp_cond, ↓reduceIte, reduceCtorEq, Nat.reduceEqDiff, Nat.reduceLT, Nat.reduceAdd, Nat.reduceMul]
    simp only [fMerge, Option.some.injEq]
    refine ⟨fun h => ?_, fun h => ⟨fun h' => ?_, fun h' => ⟨fun hx => ?_, fun hx => ?_⟩⟩⟩
    · unfold mergeV
      rw [if_pos (by simpa using h)]
      rfl
    all_goals
      simp [Nd.eq_iff] at h'
      unfold mergeV
      rw [if_neg (by simpa using h)]
    · rw [if_pos]
      · rfl
      · rw [Nd.clash_true]
        grind
    · rw [if_neg]
      · simp at hx
        simp [Nd.merge, hx]
      · simp only [Bool.not_eq_true, Nd.clash_false]
        grind
    · rw [if_neg]
      · simp at hx
        simp [Nd.merge, hx]
      · simp only [Bool.not_eq_true, Nd.clash_false]
        grind
def fRefMerge (a b : Nd) : AV := refMergeV a b
theorem q_RefMerge (cl : Bool) (a b : Nd) (s : St) : acall (conNN fRefMerge) cl [.agg (Nd.av a), .agg (Nd.av b)] s = some (refMergeV a b, s) := conNN_call fRefMerge refMergeV_ground cl a b s
set_option maxHeartbeats 4000000 in
theorem s_RefMerge : SoundAt Try.prog 45 (conNN fRefMerge) :=
  con_keep (tb_sound (l := []) (by simp)) mixed Try.func45 k45 c45 fun args s r s' h => by
    obtain ⟨a, b, rfl, rfl, rfl⟩ := conNN_some h
    refine ⟨rfl, refMergeV_ground _ _, by simp [a45], fun env hlen ha => ?_⟩
    have h0 : E env 0 = _ := ha 0 _ rfl
    have h1 : E env 1 = _ := ha 1 _ rfl
    have hlen : elen env = _ := hlen
    simp only [a45] at hlen
    unfold a45
    try dsimp only [oO, oG]
    simp (config := {contextual := true, maxDischargeDepth := 12}) only [tb, h0, h1, hlen, ↓bD, bU, forall_const, List.all_cons, List.all_nil, Option.map_some, List.map_cons, List.map_nil, ne_eq, implies_true, isNx, cstep_bool, ↓wp_cond, ↓reduceIte, reduceCtorEq, Nat.reduceEqDiff, Nat.reduceLT, Nat.reduceAdd, Nat.reduceMul]
    simp only [fRefMerge, Bool.not_eq_true', Bool.or_eq_true, Bool.or_eq_false_iff, Bool.and_eq_true, Bool.and_eq_false_imp, Bool.not_eq_false', decide_eq_true_eq, decide_eq_false_iff_not, Option.some.injEq]
    unfold refMergeV
    by_cases hc : a.clash b = true
    · rw [if_pos hc]
      rw [Nd.clash_true] at hc
      refine ⟨fun _ => rfl, fun h1 => ?_⟩
      exfalso
      grind
    · rw [if_neg hc]
      simp only [Bool.not_eq_true, Nd.clash_false] at hc
      refine ⟨fun h => ?_, fun _ => ⟨fun h => ?_, fun h => ?_⟩⟩
      · exfalso
        grind
      · simp [Nd.merge, h]
      · simp [Nd.merge, h]

end Go.AM
end
/-
  The program's and the reference's loops over lists of dots and nodes. Own work of this project; in part printed by a program of it.
-/
section
set_option linter.unusedVariables false
set_option linter.unusedSimpArgs false
set_option maxRecDepth 100000
set_option maxHeartbeats 4000000
namespace Go.AM
open Go Go.Proofs

theorem getsome {α : Type} {l : List α} {i : Nat} (h : i < l.length) : ∃ x, l[i]? = some x := ⟨l[i], by simp [h]⟩
/-- In order, each once. -/
def chain {α : Type} (p : α → α → Bool) : List α → Bool
  | [] => true
  | [_] => true
  | x :: y :: r => p x y && chain p (y :: r)
theorem chain_iff {α : Type} (p : α → α → Bool) : ∀ (l : List α), chain p l = true ↔ ∀ i x y, l[i]? = some x → l[i + 1]? = some y → p x y = true
  | [] => by simp [chain]
  | [a] => by simp [chain]
  | a :: b :: r => by
    rw [chain, Bool.and_eq_true, chain_iff p (b :: r)]
    constructor
    · rintro ⟨h1, h2⟩ i x y hx hy
      cases i with
      | zero => simp at hx hy; subst hx; subst hy; exact h1
      | succ i => exact h2 i x y (by simpa using hx) (by simpa using hy)
    · intro h
      exact ⟨h 0 a b (by simp) (by simp), fun i x y hx hy => h (i + 1) x y (by simpa using hx) (by simpa using hy)⟩
theorem getlt {α : Type} {l : List α} {i : Nat} {x : α} (h : l[i]? = some x) : i < l.length := (List.getElem?_eq_some_iff.1 h).1
theorem dcmp_lt (a b : Dot) : (0 ≤ dcmp a b) = (a.before b = false) := by
  simp only [dcmp, cmpI, Dot.before]
  grind
def fCmp (a b : Dot) : AV := .int .i64 (dcmp a b)
theorem s_Cmp : SoundAt Try.prog 38 (conDD fCmp) := s_dotCmp.lowed fun xs s r s' h => by
  obtain ⟨d, e, rfl, rfl, rfl⟩ := conDD_some h
  exact ⟨rfl, rfl⟩
theorem q_Cmp (cl : Bool) (a b : Dot) (s : St) : acall (conDD fCmp) cl [.agg (Dot.av a), .agg (Dot.av b)] s = some (.int .i64 (dcmp a b), s) := conDD_call fCmp (fun _ _ => rfl) cl a b s

def setD (l : List Dot) : Bool := chain Dot.before l
def fIsSet (l : List Dot) : AV := .bool (setD l)
theorem s_IsSet : SoundAt Try.prog 60 (conL dotC fIsSet) :=
  con_keep (tb_sound (l := [(38, conDD fCmp)]) (by simpa using s_Cmp)) mixed Try.func60 k60 c60 fun args s r s' h => by
    obtain ⟨v, l, rfl, hr, hl, rfl, rfl⟩ := conL_some h
    refine ⟨rfl, rfl, by simp [a60], fun env hlen ha => ?_⟩
    have h0 : E env 0 = _ := ha 0 _ rfl
    have hlen : elen env = _ := hlen
    simp only [a60] at hlen
    unfold a60
    try dsimp only [oO, oG]
    have hL := lenV_read hr
    simp (config := {contextual := true, maxDischargeDepth := 12}) only [tb, q_Cmp, h0, hlen, ↓bD, bU, forall_const, List.all_cons, List.all_nil, Option.map_some, List.map_cons, List.map_nil, ne_eq, implies_true, isNx, cstep_bool, ↓wp_cond, ↓wp_loop, ↓reduceIte, reduceCtorEq, Nat.reduceEqDiff, Nat.reduceLT, Nat.reduceAdd, Nat.reduceMul, Int.ofNat_lt, Int.ofNat_le, exists_const]
    refine lwp_inv (fun n e t => t = s ∧ ∃ i, n + i = l.length + 1 ∧ 1 ≤ i ∧ (i ≤ l.length ∨ i = 1) ∧ elen e = 21 ∧ E e 0 = v ∧ E e 3 = .int .i64 (i : Int) ∧ ∀ k x y, k + 1 < i → l[k]? = some x → l[k + 1]? = some y → x.before y = true) (n := l.length) ⟨by simp [kt_refl], 1, by omega, by omega, by omega, ?_, ?_, ?_, fun k x y hk => by omega⟩ ?_
    · simp only [E_pne, E_psame, elen_put, Nat.reduceEqDiff, ne_eq, not_false_eq_true, Nat.reduceLT, hlen]
    · simp only [E_pne, E_psame, elen_put, Nat.reduceEqDiff, ne_eq, not_false_eq_true, Nat.reduceLT, h0]
    · simp only [E_pne, E_psame, elen_put, Nat.reduceEqDiff, ne_eq, not_false_eq_true, Nat.reduceLT, hlen]; rfl
    · rintro n e t ⟨rfl, i, hn, h1, h2, he, e0, e3, hpre⟩
      obtain ⟨k, rfl⟩ : ∃ k, i = k + 1 := ⟨i - 1, by omega⟩
      by_cases hlt : k + 1 < l.length
      · obtain ⟨x, hx⟩ := getsome (l := l) (i := k) (by omega)
        obtain ⟨y, hy⟩ := getsome hlt
        have hw1 := wrap_sub1 (n := k) (by unfold lim at hl; omega)
        have hw2 := wrap_add1 (n := k + 1) (by unfold lim at hl; omega)
        obtain ⟨a1, _⟩ := dot_lods hr (.refl _) hx
        obtain ⟨b1, _⟩ := dot_lods hr (.refl _) hy
        have i1 := dot_idx hr hx .i64
        have i2 := dot_idx hr hy .i64
        simp (config := {contextual := true, maxDischargeDepth := 12}) only [tb, q_Cmp, e0, e3, he, hL, hlt, hw1, hw2, a1, b1, i1, i2, ↓bD, bU, forall_const, List.all_cons, List.all_nil, Option.map_some, List.map_cons, List.map_nil, ne_eq, implies_true, isNx, cstep_bool, ↓wp_cond, ↓wp_loop, ↓reduceIte, reduceCtorEq, Nat.reduceEqDiff, Nat.reduceLT, Nat.reduceAdd, Nat.reduceMul, Int.ofNat_lt, Int.ofNat_le, exists_const]
        refine ⟨⟨fun hb => ?_, fun hb => ⟨n - 1, by omega, k + 2, by omega, by omega, by omega, rfl, ?_⟩⟩, fun hf => hf.elim⟩
        · have hb := of_decide_eq_true hb
          rw [dcmp_lt] at hb
          have : setD l = false := by
            rw [← Bool.not_eq_true]
            intro hc
            have := (chain_iff _ l).1 hc k x y hx hy
            rw [hb] at this
            cases this
          simp [fIsSet, this]
        · intro k' x' y' hk' hx' hy'
          by_cases e : k' = k
          · subst e
            rw [hx] at hx'; rw [hy] at hy'
            cases hx'; cases hy'
            have hb := of_decide_eq_false hb
            rw [dcmp_lt] at hb
            simpa using hb
          · exact hpre k' x' y' (by omega) hx' hy'
      · have : setD l = true := (chain_iff _ l).2 fun i x y hx hy => hpre i x y (by have := getlt hy; omega) hx hy
        simp (config := {contextual := true, maxDischargeDepth := 12}) only [tb, q_Cmp, e0, e3, he, hL, hlt, ↓bD, bU, forall_const, List.all_cons, List.all_nil, Option.map_some, List.map_cons, List.map_nil, ne_eq, implies_true, isNx, cstep_bool, ↓wp_cond, ↓wp_loop, ↓reduceIte, reduceCtorEq, Nat.reduceEqDiff, Nat.reduceLT, Nat.reduceAdd, Nat.reduceMul, Int.ofNat_lt, Int.ofNat_le, exists_const]
        simp [fIsSet, this]
theorem q_IsSet (cl : Bool) {v : AV} {l : List Dot} {s : St} (h : read dotC s v = some l) (hl : l.length ≤ lim) : acall (conL dotC fIsSet) cl [v] s = some (.bool (setD l), s) := conL_call (fun _ => rfl) h hl cl

def ndLt (a b : Nd) : Bool := a.d.before b.d
def storeL (l : List Nd) : Bool := l.all Nd.valid && chain ndLt l
def fStore (l : List Nd) : AV := .bool (storeL l)
theorem storeL_false {l : List Nd} {i : Nat} {x : Nd} (hx : l[i]? = some x) (hv : x.valid = false) : storeL l = false := by
  have : l.all Nd.valid = false := by
    rw [← Bool.not_eq_true, List.all_eq_true]
    intro h
    rw [h x (List.mem_of_getElem? hx)] at hv
    cases hv
  simp [storeL, this]
theorem storeL_false' {l : List Nd} {i : Nat} {x y : Nd} (hx : l[i]? = some x) (hy : l[i + 1]? = some y) (hv : x.d.before y.d = false) : storeL l = false := by
  have : chain ndLt l = false := by
    rw [← Bool.not_eq_true, chain_iff]
    intro h
    have := h i x y hx hy
    rw [ndLt, hv] at this
    cases this
  simp [storeL, this]
theorem s_Store : SoundAt Try.prog 31 (conL ndC fStore) :=
  con_keep (tb_sound (l := [(43, conDD fBefore), (42, conN fIsNode)]) (by simpa using ⟨s_Before, s_IsNode⟩)) mixed Try.func31 k31 c31 fun args s r s' h => by
    obtain ⟨v, l, rfl, hr, hl, rfl, rfl⟩ := conL_some h
    refine ⟨rfl, rfl, by simp [a31], fun env hlen ha => ?_⟩
    have h0 : E env 0 = _ := ha 0 _ rfl
    have hlen : elen env = _ := hlen
    simp only [a31] at hlen
    unfold a31
    try dsimp only [oO, oG]
    have hL := lenV_read hr
    simp (config := {contextual := true, maxDischargeDepth := 12}) only [tb, q_Before, q_IsNode, h0, hlen, ↓bD, bU, forall_const, List.all_cons, List.all_nil, Option.map_some, List.map_cons, List.map_nil, ne_eq, implies_true, isNx, cstep_bool, ↓wp_cond, ↓wp_loop, ↓reduceIte, reduceCtorEq, Nat.reduceEqDiff, Nat.reduceLT, Nat.reduceAdd, Nat.reduceMul, Int.ofNat_lt, Int.ofNat_le, exists_const]
    refine lwp_inv (fun n e t => t = s ∧ ∃ i : Nat, n + i = l.length ∧ elen e = 35 ∧ E e 0 = v ∧ E e 3 = .int .i64 (i : Int) ∧ (∀ k x, k < i → l[k]? = some x → x.valid = true) ∧ ∀ k x y, k + 1 < i → l[k]? = some x → l[k + 1]? = some y → x.d.before y.d = true) (n := l.length) ⟨rfl, 0, by omega, by simp only [E_pne, E_psame, elen_put, Nat.reduceEqDiff, ne_eq, not_false_eq_true, Nat.reduceLT, hlen], by simp only [E_pne, E_psame, elen_put, Nat.reduceEqDiff, ne_eq, not_false_eq_true, Nat.reduceLT, h0], by simp only [E_pne, E_psame, elen_put, Nat.reduceEqDiff, ne_eq, not_false_eq_true, Nat.reduceLT, hlen]; rfl, fun k x hk => by omega, fun k x y hk => by omega⟩ ?_
    · rintro n e t ⟨rfl, i, hn, he, e0, e3, hpre, hpre2⟩
      by_cases hlt : i < l.length
      · obtain ⟨y, hy⟩ := getsome hlt
        have hw2 := wrap_add1 (n := i) (by unfold lim at hl; omega)
        obtain ⟨b1, b2, _⟩ := nd_lods hr (.refl _) hy
        have i2 := nd_idx hr hy .i64
        cases i with
        | zero =>
          have hz : ((0 : Int) < ((0 : Nat) : Int)) = False := eq_false (by omega)
          rw [Nat.zero_mul, Nat.add_zero] at b1 b2 i2
          simp (config := {contextual := true, maxDischargeDepth := 12}) only [tb, q_Before, q_IsNode, e0, e3, he, hL, hlt, hw2, b1, b2, i2, hz, ↓bD, bU, forall_const, List.all_cons, List.all_nil, Option.map_some, List.map_cons, List.map_nil, ne_eq, implies_true, isNx, cstep_bool, ↓wp_cond, ↓wp_loop, ↓reduceIte, reduceCtorEq, Nat.reduceEqDiff, Nat.reduceLT, Nat.reduceAdd, Nat.reduceMul, Int.ofNat_lt, Int.ofNat_le, exists_const]
          refine ⟨⟨fun hb => ?_, fun hb => ⟨n - 1, by omega, 1, by omega, rfl, ?_, fun k x y hk => by omega⟩⟩, fun hf => hf.elim⟩
          · simp [fStore, storeL_false hy hb]
          · intro k x hk hx
            obtain rfl : k = 0 := by omega
            rw [hy] at hx; cases hx
            exact hb
        | succ k =>
          have hz : ((0 : Int) < ((k + 1 : Nat) : Int)) = True := eq_true (by omega)
          obtain ⟨x, hx⟩ := getsome (l := l) (i := k) (by omega)
          have hw1 := wrap_sub1 (n := k) (by unfold lim at hl; omega)
          obtain ⟨a1, a2, _⟩ := nd_lods hr (.refl _) hx
          have i1 := nd_idx hr hx .i64
          simp (config := {contextual := true, maxDischargeDepth := 12}) only [tb, q_Before, q_IsNode, e0, e3, he, hL, hlt, hw1, hw2, a1, a2, b1, b2, i1, i2, hz, ↓bD, bU, forall_const, List.all_cons, List.all_nil, Option.map_some, List.map_cons, List.map_nil, ne_eq, implies_true, isNx, cstep_bool, ↓wp_cond, ↓wp_loop, ↓reduceIte, reduceCtorEq, Nat.reduceEqDiff, Nat.reduceLT, Nat.reduceAdd, Nat.reduceMul, Int.ofNat_lt, Int.ofNat_le, exists_const]
          refine ⟨⟨fun hb => ?_, fun hb => ⟨n - 1, by omega, k + 2, by omega, rfl, ?_, ?_⟩⟩, fun hf => hf.elim⟩
          · simp only [Bool.or_eq_true, Bool.not_eq_true'] at hb
            rcases hb with hb | hb
            · simp [fStore, storeL_false hy hb]
            · simp [fStore, storeL_false' hx hy hb]
          · simp only [Bool.or_eq_false_iff, Bool.not_eq_false'] at hb
            intro k' x' hk' hx'
            by_cases e' : k' = k + 1
            · subst e'
              rw [hy] at hx'; cases hx'
              exact hb.1
            · exact hpre k' x' (by omega) hx'
          · simp only [Bool.or_eq_false_iff, Bool.not_eq_false'] at hb
            intro k' x' y' hk' hx' hy'
            by_cases e' : k' = k
            · subst e'
              rw [hx] at hx'; rw [hy] at hy'
              cases hx'; cases hy'
              exact hb.2
            · exact hpre2 k' x' y' (by omega) hx' hy'
      · have hv : l.all Nd.valid = true := by
          rw [List.all_eq_true]
          intro x hx
          obtain ⟨k, hk⟩ := List.getElem?_of_mem hx
          exact hpre k x (by have := getlt hk; omega) hk
        have hc : chain ndLt l = true := (chain_iff _ l).2 fun i x y hx hy => hpre2 i x y (by have := getlt hy; omega) hx hy
        simp (config := {contextual := true, maxDischargeDepth := 12}) only [tb, e0, e3, he, hL, hlt, ↓bD, bU, forall_const, List.all_cons, List.all_nil, Option.map_some, List.map_cons, List.map_nil, ne_eq, implies_true, isNx, cstep_bool, ↓wp_cond, ↓wp_loop, ↓reduceIte, reduceCtorEq, Nat.reduceEqDiff, Nat.reduceLT, Nat.reduceAdd, Nat.reduceMul, Int.ofNat_lt, Int.ofNat_le, exists_const]
        simp [fStore, storeL, hv, hc]
theorem q_Store (cl : Bool) {v : AV} {l : List Nd} {s : St} (h : read ndC s v = some l) (hl : l.length ≤ lim) : acall (conL ndC fStore) cl [v] s = some (.bool (storeL l), s) := conL_call (fun _ => rfl) h hl cl

def fSame (l m : List Nd) : AV := .bool (decide (l = m))
theorem ne_at {α : Type} {l m : List α} {i : Nat} {x y : α} (hx : l[i]? = some x) (hy : m[i]? = some y) (h : x ≠ y) : l ≠ m := by
  rintro rfl
  rw [hx] at hy
  cases hy
  exact h rfl
theorem eq_of_at {α : Type} {l m : List α} (hlen : l.length = m.length) (h : ∀ (k : Nat) (x y : α), l[k]? = some x → m[k]? = some y → x = y) : l = m := by
  apply List.ext_getElem? 
  intro k
  by_cases hk : k < l.length
  · obtain ⟨x, hx⟩ := getsome hk
    obtain ⟨y, hy⟩ := getsome (l := m) (i := k) (by omega)
    rw [hx, hy, h k x y hx hy]
  · rw [List.getElem?_eq_none (by omega), List.getElem?_eq_none (by omega)]
theorem s_Same : SoundAt Try.prog 24 (conLL ndC ndC fSame) :=
  con_keep (tb_sound (l := []) (by simp)) mixed Try.func24 k24 c24 fun args s r s' h => by
    obtain ⟨v, w, l, m, rfl, hr, hw, hl, hm, rfl, rfl⟩ := conLL_some h
    refine ⟨rfl, rfl, by simp [a24], fun env hlen ha => ?_⟩
    have h0 : E env 0 = _ := ha 0 _ rfl
    have h1 : E env 1 = _ := ha 1 _ rfl
    have hlen : elen env = _ := hlen
    simp only [a24] at hlen
    unfold a24
    try dsimp only [oO, oG]
    have hL := lenV_read hr
    have hM := lenV_read hw
    by_cases hlm : l.length = m.length
    rotate_left
    · have hz : ((l.length : Int) = (m.length : Int)) = False := eq_false (by omega)
      have : l ≠ m := fun e => hlm (by rw [e])
      simp (config := {contextual := true, maxDischargeDepth := 12}) only [tb, h0, h1, hlen, hL, hM, hz, ↓bD, bU, forall_const, List.all_cons, List.all_nil, Option.map_some, List.map_cons, List.map_nil, ne_eq, implies_true, isNx, cstep_bool, ↓wp_cond, ↓wp_loop, ↓reduceIte, reduceCtorEq, Nat.reduceEqDiff, Nat.reduceLT, Nat.reduceAdd, Nat.reduceMul, Int.ofNat_lt, Int.ofNat_le, exists_const]
      simp [fSame, this]
    have hz : ((l.length : Int) = (m.length : Int)) = True := eq_true (by omega)
    simp (config := {contextual := true, maxDischargeDepth := 12}) only [tb, h0, h1, hlen, hL, hM, hz, ↓bD, bU, forall_const, List.all_cons, List.all_nil, Option.map_some, List.map_cons, List.map_nil, ne_eq, implies_true, isNx, cstep_bool, ↓wp_cond, ↓wp_loop, ↓reduceIte, reduceCtorEq, Nat.reduceEqDiff, Nat.reduceLT, Nat.reduceAdd, Nat.reduceMul, Int.ofNat_lt, Int.ofNat_le, exists_const]
    refine ⟨fun hf => hf.elim, ?_⟩
    refine lwp_inv (fun n e t => t = s ∧ ∃ i : Nat, n + i = l.length ∧ elen e = 26 ∧ E e 0 = v ∧ E e 1 = w ∧ E e 5 = .int .i64 (i : Int) ∧ (∀ k x y, k < i → l[k]? = some x → m[k]? = some y → x = y)) (n := l.length) ⟨rfl, 0, by omega, by simp only [E_pne, E_psame, elen_put, Nat.reduceEqDiff, ne_eq, not_false_eq_true, Nat.reduceLT, hlen], by simp only [E_pne, E_psame, elen_put, Nat.reduceEqDiff, ne_eq, not_false_eq_true, Nat.reduceLT, h0], by simp only [E_pne, E_psame, elen_put, Nat.reduceEqDiff, ne_eq, not_false_eq_true, Nat.reduceLT, h1], by simp only [E_pne, E_psame, elen_put, Nat.reduceEqDiff, ne_eq, not_false_eq_true, Nat.reduceLT, hlen]; rfl, fun k x y hk => by omega⟩ ?_
    · rintro n e t ⟨rfl, i, hn, he, e0, e1, e3, hpre⟩
      by_cases hlt : i < l.length
      · obtain ⟨x, hx⟩ := getsome hlt
        obtain ⟨y, hy⟩ := getsome (l := m) (i := i) (by omega)
        have hw2 := wrap_add1 (n := i) (by unfold lim at hl; omega)
        obtain ⟨a1, _⟩ := nd_lods hr (.refl _) hx
        obtain ⟨b1, _⟩ := nd_lods hw (.refl _) hy
        have i1 := nd_idx hr hx .i64
        have i2 := nd_idx hw hy .i64
        simp (config := {contextual := true, maxDischargeDepth := 12}) only [tb, e0, e1, e3, he, hL, hM, hlt, hw2, a1, b1, i1, i2, ↓bD, bU, forall_const, List.all_cons, List.all_nil, Option.map_some, List.map_cons, List.map_nil, ne_eq, implies_true, isNx, cstep_bool, ↓wp_cond, ↓wp_loop, ↓reduceIte, reduceCtorEq, Nat.reduceEqDiff, Nat.reduceLT, Nat.reduceAdd, Nat.reduceMul, Int.ofNat_lt, Int.ofNat_le, exists_const]
        refine ⟨⟨fun hb => ?_, fun hb => ⟨n - 1, by omega, i + 1, by omega, rfl, ?_⟩⟩, fun hf => hf.elim⟩
        · have hb := of_decide_eq_false hb
          simp [fSame, ne_at hx hy hb]
        · have hb := of_decide_eq_true hb
          intro k' x' y' hk' hx' hy'
          by_cases e' : k' = i
          · subst e'
            rw [hx] at hx'; rw [hy] at hy'
            cases hx'; cases hy'
            exact hb
          · exact hpre k' x' y' (by omega) hx' hy'
      · have : l = m := eq_of_at hlm fun k x y hx hy => hpre k x y (by have := getlt hx; omega) hx hy
        simp (config := {contextual := true, maxDischargeDepth := 12}) only [tb, e0, e1, e3, he, hL, hM, hlt, ↓bD, bU, forall_const, List.all_cons, List.all_nil, Option.map_some, List.map_cons, List.map_nil, ne_eq, implies_true, isNx, cstep_bool, ↓wp_cond, ↓wp_loop, ↓reduceIte, reduceCtorEq, Nat.reduceEqDiff, Nat.reduceLT, Nat.reduceAdd, Nat.reduceMul, Int.ofNat_lt, Int.ofNat_le, exists_const]
        simp [fSame, this]
theorem q_Same (cl : Bool) {v w : AV} {l m : List Nd} {s : St} (h : read ndC s v = some l) (k : read ndC s w = some m) (hl : l.length ≤ lim) (hm : m.length ≤ lim) : acall (conLL ndC ndC fSame) cl [v, w] s = some (.bool (decide (l = m)), s) := conLL_call (fun _ _ => rfl) h k hl hm cl
theorem q_SEqual (cl : Bool) {v w : AV} {l m : List Nd} {s : St} (h : read ndC s v = some l) (k : read ndC s w = some m) (hl : l.length ≤ lim) (hm : m.length ≤ lim) : acall (conLL ndC ndC fSame) cl [v, w] s = some (.bool (decide (l = m)), s) := conLL_call (fun _ _ => rfl) h k hl hm cl

end Go.AM
end
/-
  More loops: Find, Agree, IndexFunc, and functions that pass on what another one answers. Own work of this project; in part printed by a program of it.
-/
section
set_option linter.unusedVariables false
set_option linter.unusedSimpArgs false
set_option maxRecDepth 100000
set_option maxHeartbeats 4000000
namespace Go.AM
open Go Go.Proofs

/-! ### Find -/
def conLD {α : Type} (C : Cod α) (f : List α → Dot → AV) : Con := fun xs s => match xs with
  | [v, .agg cs] => match read C s v, dotC.dec cs with
    | some l, some d => if l.length ≤ lim then some (f l d, s.lowed) else none
    | _, _ => none
  | _ => none
theorem conLD_some {α : Type} {C : Cod α} {f : List α → Dot → AV} {xs : List AV} {s : St} {r : AV} {s' : St} (h : conLD C f xs s = some (r, s')) :
    ∃ v l d, xs = [v, .agg (Dot.av d)] ∧ read C s v = some l ∧ l.length ≤ lim ∧ r = f l d ∧ s' = s.lowed := by
  unfold conLD at h
  split at h
  · split at h
    · split at h
      · rename_i v _ _ _ l d hr hd hl
        injection h with h
        obtain ⟨rfl, rfl⟩ := Prod.mk.inj h
        have := dotC.enc_dec _ _ hd
        exact ⟨v, l, d, by rw [this]; rfl, hr, hl, rfl, rfl⟩
      · cases h
    · cases h
  · cases h
theorem conLD_call {α : Type} {C : Cod α} {f : List α → Dot → AV} (hf : ∀ l d, (f l d).ground = true) {s : St} {v : AV} {l : List α} (h : read C s v = some l) (hl : l.length ≤ lim) (cl : Bool) (d : Dot) : acall (conLD C f) cl [v, .agg (Dot.av d)] s = some (f l d, s) :=
  acall_rol (by
    have e : dotC.dec (Dot.av d) = some d := rfl
    simp only [conLD, read_low, h, hl, e, if_true]) (hf l d)
/-- The first node with a dot, or -1. -/
def findL : List Nd → Dot → Int
  | [], _ => -1
  | x :: r, d => if x.d = d then 0 else if findL r d < 0 then -1 else findL r d + 1
theorem findL_ge : ∀ (l : List Nd) (d : Dot), -1 ≤ findL l d
  | [], d => by simp [findL]
  | x :: r, d => by
    have := findL_ge r d
    simp only [findL]
    split
    · omega
    · split <;> omega
theorem findL_hit : ∀ (l : List Nd) (d : Dot) (i : Nat) (x : Nd), l[i]? = some x → x.d = d → (∀ k y, k < i → l[k]? = some y → y.d ≠ d) → findL l d = i
  | [], d, i, x, h, _, _ => by simp at h
  | y :: r, d, 0, x, h, hd, _ => by simp at h; subst h; simp [findL, hd]
  | y :: r, d, i + 1, x, h, hd, hp => by
    have h1 := hp 0 y (by omega) (by simp)
    have h2 := findL_hit r d i x (by simpa using h) hd fun k z hk hz => hp (k + 1) z (by omega) (by simpa using hz)
    simp only [findL, h2, if_neg h1]
    rw [if_neg (by omega)]
    omega
theorem findL_miss : ∀ (l : List Nd) (d : Dot), (∀ x ∈ l, x.d ≠ d) → findL l d = -1
  | [], d, _ => rfl
  | y :: r, d, h => by
    simp only [findL, if_neg (h y (by simp)), findL_miss r d fun x hx => h x (by simp [hx])]
    simp
theorem findL_some {l : List Nd} {d : Dot} (h : 0 ≤ findL l d) : ∃ (i : Nat) (x : Nd), findL l d = i ∧ l[i]? = some x ∧ x.d = d := by
  induction l with
  | nil => simp [findL] at h
  | cons y r ih =>
    simp only [findL] at h ⊢
    split at h
    · rename_i e
      exact ⟨0, y, by simp [e], by simp, e⟩
    · rename_i e
      split at h
      · omega
      · rename_i e2
        obtain ⟨i, x, h1, h2, h3⟩ := ih (by omega)
        refine ⟨i + 1, x, ?_, by simpa using h2, h3⟩
        rw [if_neg e, if_neg e2, h1]
        omega
theorem findL_none {l : List Nd} {d : Dot} (h : findL l d < 0) : ∀ x ∈ l, x.d ≠ d := by
  induction l with
  | nil => simp
  | cons y r ih =>
    simp only [findL] at h
    split at h
    · omega
    · rename_i e
      have hr : findL r d < 0 := by
        split at h
        · assumption
        · omega
      intro x hx
      rcases List.mem_cons.1 hx with rfl | hx
      · exact e
      · exact ih hr x hx
def fFind (l : List Nd) (d : Dot) : AV := .int .i64 (findL l d)
theorem s_Find : SoundAt Try.prog 44 (conLD ndC fFind) :=
  con_keep (tb_sound (l := []) (by simp)) mixed Try.func44 k44 c44 fun args s r s' h => by
    obtain ⟨v, l, d, rfl, hr, hl, rfl, rfl⟩ := conLD_some h
    refine ⟨rfl, rfl, by simp [a44], fun env hlen ha => ?_⟩
    have h0 : E env 0 = _ := ha 0 _ rfl
    have h1 : E env 1 = _ := ha 1 _ rfl
    have hlen : elen env = _ := hlen
    simp only [a44] at hlen
    unfold a44
    try dsimp only [oO, oG]
    have hL := lenV_read hr
    simp (config := {contextual := true, maxDischargeDepth := 12}) only [tb, h0, h1, hlen, ↓bD, bU, forall_const, List.all_cons, List.all_nil, Option.map_some, List.map_cons, List.map_nil, ne_eq, implies_true, isNx, cstep_bool, ↓wp_cond, ↓wp_loop, ↓reduceIte, reduceCtorEq, Nat.reduceEqDiff, Nat.reduceLT, Nat.reduceAdd, Nat.reduceMul, Int.ofNat_lt, Int.ofNat_le, exists_const]
    refine lwp_inv (fun n e t => t = s.push (.row (Dot.av d) true) ∧ ∃ i : Nat, n + i = l.length ∧ elen e = 20 ∧ E e 0 = v ∧ E e 3 = .ptr s.next 0 ∧ E e 5 = .int .i64 (i : Int) ∧ ∀ k y, k < i → l[k]? = some y → y.d ≠ d) (n := l.length) ⟨rfl, 0, by omega, by simp only [E_pne, E_psame, elen_put, Nat.reduceEqDiff, ne_eq, not_false_eq_true, Nat.reduceLT, hlen], by simp only [E_pne, E_psame, elen_put, Nat.reduceEqDiff, ne_eq, not_false_eq_true, Nat.reduceLT, h0], by simp only [E_pne, E_psame, elen_put, Nat.reduceEqDiff, ne_eq, not_false_eq_true, Nat.reduceLT, hlen], by simp only [E_pne, E_psame, elen_put, Nat.reduceEqDiff, ne_eq, not_false_eq_true, Nat.reduceLT, hlen]; rfl, fun k y hk => by omega⟩ ?_
    · rintro n e t ⟨rfl, i, hn, he, e0, e3, e5, hpre⟩
      by_cases hlt : i < l.length
      · obtain ⟨x, hx⟩ := getsome hlt
        have hw2 := wrap_add1 (n := i) (by unfold lim at hl; omega)
        obtain ⟨_, a2, _, _, _, al⟩ := nd_lods hr (.refl _) hx
        have i1 := nd_idx hr hx .i64
        simp (config := {contextual := true, maxDischargeDepth := 12}) only [tb, e0, e3, e5, he, hL, hlt, hw2, a2, al, i1, ↓bD, bU, forall_const, List.all_cons, List.all_nil, Option.map_some, List.map_cons, List.map_nil, ne_eq, implies_true, isNx, cstep_bool, ↓wp_cond, ↓wp_loop, ↓reduceIte, reduceCtorEq, Nat.reduceEqDiff, Nat.reduceLT, Nat.reduceAdd, Nat.reduceMul, Int.ofNat_lt, Int.ofNat_le, exists_const]
        refine ⟨⟨fun hb => ?_, fun hb => ⟨n - 1, by omega, i + 1, by omega, rfl, ?_⟩⟩, fun hf => hf.elim⟩
        · have hb := of_decide_eq_true hb
          simp only [fFind, findL_hit l d i x hx hb hpre]
        · have hb := of_decide_eq_false hb
          intro k' y' hk' hy'
          by_cases e' : k' = i
          · subst e'
            rw [hx] at hy'; cases hy'
            exact hb
          · exact hpre k' y' (by omega) hy'
      · have : findL l d = -1 := findL_miss l d fun x hx => by
          obtain ⟨k, hk⟩ := List.getElem?_of_mem hx
          exact hpre k x (by have := getlt hk; omega) hk
        simp (config := {contextual := true, maxDischargeDepth := 12}) only [tb, e0, e3, e5, he, hL, hlt, ↓bD, bU, forall_const, List.all_cons, List.all_nil, Option.map_some, List.map_cons, List.map_nil, ne_eq, implies_true, isNx, cstep_bool, ↓wp_cond, ↓wp_loop, ↓reduceIte, reduceCtorEq, Nat.reduceEqDiff, Nat.reduceLT, Nat.reduceAdd, Nat.reduceMul, Int.ofNat_lt, Int.ofNat_le, exists_const]
        simp [fFind, this]
theorem q_Find (cl : Bool) {v : AV} {l : List Nd} {s : St} (h : read ndC s v = some l) (hl : l.length ≤ lim) (d : Dot) : acall (conLD ndC fFind) cl [v, .agg (Dot.av d)] s = some (.int .i64 (findL l d), s) := conLD_call (fun _ _ => rfl) h hl cl d
theorem q_StEqual (cl : Bool) {v w : AV} {l m : List Nd} {s : St} (h : read ndC s v = some l) (k : read ndC s w = some m) (hl : l.length ≤ lim) (hm : m.length ≤ lim) : acall (conLL ndC ndC fSame) cl [v, w] s = some (.bool (decide (l = m)), s) := conLL_call (fun _ _ => rfl) h k hl hm cl
theorem q_JEqual (cl : Bool) {v w : AV} {l m : List Nd} {s : St} (h : read ndC s v = some l) (k : read ndC s w = some m) (hl : l.length ≤ lim) (hm : m.length ≤ lim) : acall (conLL ndC ndC fSame) cl [v, w] s = some (.bool (decide (l = m)), s) := conLL_call (fun _ _ => rfl) h k hl hm cl

/-! ### IndexFunc and ContainsFunc -/
def conLfn (f : List Nd → AV) (g : Nat) : Con := fun xs s => match xs with
  | [v, .fn g' []] => if g' = g then match read ndC s v with
    | some l => if l.length ≤ lim then some (f l, s.lowed) else none
    | none => none
    else none
  | _ => none
theorem conLfn_some {f : List Nd → AV} {g : Nat} {xs : List AV} {s : St} {r : AV} {s' : St} (h : conLfn f g xs s = some (r, s')) : ∃ v l, xs = [v, .fn g []] ∧ read ndC s v = some l ∧ l.length ≤ lim ∧ r = f l ∧ s' = s.lowed := by
  unfold conLfn at h
  split at h
  · split at h
    · rename_i e
      subst e
      split at h
      · split at h
        · rename_i v _ _ l hr hl
          injection h with h
          obtain ⟨rfl, rfl⟩ := Prod.mk.inj h
          exact ⟨v, l, rfl, hr, hl, rfl, rfl⟩
        · cases h
      · cases h
    · cases h
  · cases h
theorem conLfn_call {f : List Nd → AV} (hf : ∀ l, (f l).ground = true) {g : Nat} {s : St} {v : AV} {l : List Nd} (h : read ndC s v = some l) (hl : l.length ≤ lim) (cl : Bool) : acall (conLfn f g) cl [v, .fn g []] s = some (f l, s) :=
  acall_rol (by simp only [conLfn, read_low, h, hl, if_true]) (hf l)
/-- The first node that is not valid, or -1. -/
def badL : List Nd → Int
  | [] => -1
  | x :: r => if x.valid = false then 0 else if badL r < 0 then -1 else badL r + 1
theorem badL_hit : ∀ (l : List Nd) (i : Nat) (x : Nd), l[i]? = some x → x.valid = false → (∀ k y, k < i → l[k]? = some y → y.valid = true) → badL l = i
  | [], i, x, h, _, _ => by simp at h
  | y :: r, 0, x, h, hd, _ => by simp at h; subst h; simp [badL, hd]
  | y :: r, i + 1, x, h, hd, hp => by
    have h1 := hp 0 y (by omega) (by simp)
    have h2 := badL_hit r i x (by simpa using h) hd fun k z hk hz => hp (k + 1) z (by omega) (by simpa using hz)
    simp only [badL, h2, h1]
    rw [if_neg (by simp), if_neg (by omega)]
    omega
theorem badL_miss : ∀ (l : List Nd), (∀ x ∈ l, x.valid = true) → badL l = -1
  | [], _ => rfl
  | y :: r, h => by
    simp [badL, h y (by simp), badL_miss r fun x hx => h x (by simp [hx])]
theorem badL_all (l : List Nd) : (0 ≤ badL l) = (l.all Nd.valid = false) := by
  induction l with
  | nil => simp [badL]
  | cons x r ih =>
    simp only [badL, List.all_cons]
    cases hx : x.valid
    · simp
    · simp only [Bool.true_and, Bool.true_eq_false, if_false]
      rw [← ih]
      split <;> simp <;> omega
def fBad (l : List Nd) : AV := .int .i64 (badL l)
def fHasBad (l : List Nd) : AV := .bool (!l.all Nd.valid)
theorem s_IndexBad : SoundAt Try.prog 66 (conLfn fBad 55) :=
  con_keep (tb_sound (l := [(55, conN fInvalid)]) (by simpa using s_Invalid)) mixed Try.func66 k66 c66 fun args s r s' h => by
    obtain ⟨v, l, rfl, hr, hl, rfl, rfl⟩ := conLfn_some h
    refine ⟨rfl, rfl, by simp [a66], fun env hlen ha => ?_⟩
    have h0 : E env 0 = _ := ha 0 _ rfl
    have h1 : E env 1 = _ := ha 1 _ rfl
    have hlen : elen env = _ := hlen
    simp only [a66] at hlen
    unfold a66
    try dsimp only [oO, oG]
    have hL := lenV_read hr
    simp (config := {contextual := true, maxDischargeDepth := 12}) only [tb, q_Invalid, h0, h1, hlen, hL, ↓bD, bU, forall_const, List.all_cons, List.all_nil, Option.map_some, List.map_cons, List.map_nil, ne_eq, implies_true, isNx, cstep_bool, ↓wp_cond, ↓wp_loop, ↓reduceIte, reduceCtorEq, Nat.reduceEqDiff, Nat.reduceLT, Nat.reduceAdd, Nat.reduceMul, Int.ofNat_lt, Int.ofNat_le, exists_const]
    refine lwp_inv (fun n e t => t = s ∧ ∃ i : Nat, n + i = l.length ∧ elen e = 19 ∧ E e 0 = v ∧ E e 1 = .fn 55 [] ∧ E e 7 = .int .i64 (l.length : Int) ∧ E e 8 = .int .i64 (i : Int) ∧ ∀ k y, k < i → l[k]? = some y → y.valid = true) (n := l.length) ⟨rfl, 0, by omega, by simp only [E_pne, E_psame, elen_put, Nat.reduceEqDiff, ne_eq, not_false_eq_true, Nat.reduceLT, hlen], by simp only [E_pne, E_psame, elen_put, Nat.reduceEqDiff, ne_eq, not_false_eq_true, Nat.reduceLT, h0], by simp only [E_pne, E_psame, elen_put, Nat.reduceEqDiff, ne_eq, not_false_eq_true, Nat.reduceLT, h1], by simp only [E_pne, E_psame, elen_put, Nat.reduceEqDiff, ne_eq, not_false_eq_true, Nat.reduceLT, hlen], by simp only [E_pne, E_psame, elen_put, Nat.reduceEqDiff, ne_eq, not_false_eq_true, Nat.reduceLT, hlen]; rfl, fun k y hk => by omega⟩ ?_
    · rintro n e t ⟨rfl, i, hn, he, e0, e1, e7, e8, hpre⟩
      by_cases hlt : i < l.length
      · obtain ⟨x, hx⟩ := getsome hlt
        have hw2 := wrap_add1 (n := i) (by unfold lim at hl; omega)
        obtain ⟨a1, _⟩ := nd_lods hr (.refl _) hx
        have i1 := nd_idx hr hx .i64
        simp (config := {contextual := true, maxDischargeDepth := 12}) only [tb, q_Invalid, ae_callv, List.append_nil, e0, e1, e7, e8, he, hL, hlt, hw2, a1, i1, ↓bD, bU, forall_const, List.all_cons, List.all_nil, Option.map_some, List.map_cons, List.map_nil, ne_eq, implies_true, isNx, cstep_bool, ↓wp_cond, ↓wp_loop, ↓reduceIte, reduceCtorEq, Nat.reduceEqDiff, Nat.reduceLT, Nat.reduceAdd, Nat.reduceMul, Int.ofNat_lt, Int.ofNat_le, exists_const]
        refine ⟨⟨fun hb => ?_, fun hb => ⟨n - 1, by omega, i + 1, by omega, rfl, ?_⟩⟩, fun hf => hf.elim⟩
        · simp only [fBad, badL_hit l i x hx hb hpre]
        · intro k' y' hk' hy'
          by_cases e' : k' = i
          · subst e'
            rw [hx] at hy'; cases hy'
            exact hb
          · exact hpre k' y' (by omega) hy'
      · have : badL l = -1 := badL_miss l fun x hx => by
          obtain ⟨k, hk⟩ := List.getElem?_of_mem hx
          exact hpre k x (by have := getlt hk; omega) hk
        simp (config := {contextual := true, maxDischargeDepth := 12}) only [tb, e0, e1, e7, e8, he, hL, hlt, ↓bD, bU, forall_const, List.all_cons, List.all_nil, Option.map_some, List.map_cons, List.map_nil, ne_eq, implies_true, isNx, cstep_bool, ↓wp_cond, ↓wp_loop, ↓reduceIte, reduceCtorEq, Nat.reduceEqDiff, Nat.reduceLT, Nat.reduceAdd, Nat.reduceMul, Int.ofNat_lt, Int.ofNat_le, exists_const]
        simp [fBad, this]
theorem q_IndexBad (cl : Bool) {v : AV} {l : List Nd} {s : St} (h : read ndC s v = some l) (hl : l.length ≤ lim) : acall (conLfn fBad 55) cl [v, .fn 55 []] s = some (.int .i64 (badL l), s) := conLfn_call (fun _ => rfl) h hl cl
theorem s_HasBad : SoundAt Try.prog 54 (conLfn fHasBad 55) :=
  con_keep (tb_sound (l := [(66, conLfn fBad 55)]) (by simpa using s_IndexBad)) mixed Try.func54 k54 c54 fun args s r s' h => by
    obtain ⟨v, l, rfl, hr, hl, rfl, rfl⟩ := conLfn_some h
    refine ⟨rfl, rfl, by simp [a54], fun env hlen ha => ?_⟩
    have h0 : E env 0 = _ := ha 0 _ rfl
    have h1 : E env 1 = _ := ha 1 _ rfl
    have hlen : elen env = _ := hlen
    simp only [a54] at hlen
    unfold a54
    try dsimp only [oO, oG]
    have hq := q_IndexBad false hr hl
    simp (config := {contextual := true, maxDischargeDepth := 12}) only [tb, hq, h0, h1, hlen, ↓bD, bU, forall_const, List.all_cons, List.all_nil, Option.map_some, List.map_cons, List.map_nil, ne_eq, implies_true, isNx, cstep_bool, ↓wp_cond, ↓wp_loop, ↓reduceIte, reduceCtorEq, Nat.reduceEqDiff, Nat.reduceLT, Nat.reduceAdd, Nat.reduceMul, Int.ofNat_lt, Int.ofNat_le, exists_const]
    simp only [badL_all, fHasBad]
    cases l.all Nd.valid <;> rfl
theorem q_HasBad (cl : Bool) {v : AV} {l : List Nd} {s : St} (h : read ndC s v = some l) (hl : l.length ≤ lim) : acall (conLfn fHasBad 55) cl [v, .fn 55 []] s = some (.bool (!l.all Nd.valid), s) := conLfn_call (fun _ => rfl) h hl cl

end Go.AM
end
/-
  Contracts of functions that return a new list. Own work of this project.
-/
section
set_option linter.unusedVariables false
set_option linter.unusedSimpArgs false
namespace Go.AM
open Go

variable {β : Type}
/-- The new list alone, or with one more result. -/
def mkR (e : Option AV) (v : AV) : AV := match e with
  | none => v
  | some e => .tup [v, e]
def conF (D : Cod β) (p : List AV → St → Option (List β × Option AV)) : Con := fun xs s => match p xs s with
  | some (l, e) => some (mkR e (freshV D s l), freshS D s l)
  | none => none
theorem conF_some {D : Cod β} {p : List AV → St → Option (List β × Option AV)} {xs : List AV} {s : St} {r : AV} {s' : St} (h : conF D p xs s = some (r, s')) : ∃ l e, p xs s = some (l, e) ∧ r = mkR e (freshV D s l) ∧ s' = freshS D s l := by
  unfold conF at h
  split at h
  · rename_i l e hp
    injection h with h
    obtain ⟨rfl, rfl⟩ := Prod.mk.inj h
    exact ⟨l, e, hp, rfl, rfl⟩
  · cases h
theorem mkR_ren {f : Nat → Nat} {e : Option AV} (he : ∀ x, e = some x → x.plain = true) (v : AV) : (mkR e v).ren f = mkR e (v.ren f) := by
  cases e with
  | none => rfl
  | some x => simp [mkR, AV.ren, AV.rens, plain_ren f (he x rfl)]
theorem con_fresh {P : Program} {call : Nat → List AV → St → Option (AV × St)} (hS : Sound P call) (hm : P.follows .mixedOrders = true) {g : Nat} {fn : Func} {afn : AFn} (hf : P.funcs[g]? = some fn) (hcal : callable P g = true) (hc : cfn P fn = some afn)
    {D : Cod β} {p : List AV → St → Option (List β × Option AV)} (h : ∀ args s l e, p args s = some (l, e) → (∀ x, e = some x → x.plain = true) ∧ args.length ≤ afn.ntmps ∧ ∀ env : Env, elen env = afn.ntmps → (∀ i v, args[i]? = some v → E env i = v) →
      awp call afn.body (fun x env t => (∀ i, x ≠ .exit i) ∧ Keep s t ∧ ∃ v, aresults env t afn.results = some (mkR e v) ∧ Own D s t v l) env s) : SoundAt P g (conF D p) := by
  refine con_sound hS hm hf hcal hc fun args s r s' hh => ?_
  obtain ⟨l, e, hp, rfl, rfl⟩ := conF_some hh
  obtain ⟨he, hl, k⟩ := h args s l e hp
  refine ⟨gk_fresh D s l, start_env hl fun env h1 h2 => awp_mono _ (fun x env' t q => ?_) (k env h1 h2)⟩
  obtain ⟨q1, q2, v, q3, q4⟩ := q
  obtain ⟨f, _, hf, hv⟩ := emb_fresh q2 q4
  exact ⟨q1, f, by rw [q3, mkR_ren he, hv], hf⟩
/-- What a caller has behind such a call. -/
theorem acall_fresh {D : Cod β} {p : List AV → St → Option (List β × Option AV)} {xs : List AV} {s : St} {l : List β} {e : Option AV} (hp : p xs { heap := s.heap, next := s.next, low := s.next } = some (l, e)) (he : ∀ x, e = some x → x.plain = true) :
    ∃ v t, acall (conF D p) false xs s = some (mkR e v, t) ∧ Keep s t ∧ Own D s t v l := by
  have hg : ∀ v : AV, v.plain = true → (mkR e v).ground = true := by
    intro v hv
    cases e with
    | none =>
      cases v <;> simp_all [mkR, AV.plain, AV.ground]
    | some x =>
      have h1 := he x rfl
      have h2 : ∀ y : AV, y.plain = true → y.plains = true := by intro y hy; cases y <;> simp_all [AV.plain, AV.plains]
      simp [mkR, AV.ground, h2 _ h1, h2 _ hv]
  by_cases hl : l = []
  · subst hl
    refine ⟨.nils, s, ?_, .refl s, .nil _ _ _⟩
    simp [acall, conF, hp, freshV, freshS, hg .nils rfl, St.lowed]
  · have hle : l.isEmpty = false := by simpa using hl
    refine ⟨.sl s.next 0 l.length none D.sz, freshS D s l, ?_, keep_fresh D s l, .inr ⟨s.next, rfl, hl, Nat.le_refl _, ?_⟩⟩
    · have hn : (mkR e (.sl s.next 0 l.length none D.sz)).ground = false := by cases e <;> simp [mkR, AV.ground, AV.plain, AV.plains]
      simp only [acall, conF, hp, freshV, freshS, hle, Bool.false_eq_true, if_false, hn, Bool.false_and]
      simp [St.push, St.lowed]
    · simp only [freshS, hle, Bool.false_eq_true, if_false]
      exact St.get_push_new _ _
/-- Made by a function that was called: still the caller's own, seen from where the caller began. -/
theorem Own.from {D : Cod β} {s0 s t : St} {v : AV} {l : List β} (h : Own D s t v l) (hn : s0.next ≤ s.next) : Own D s0 t v l := by
  rcases h with ⟨rfl, rfl⟩ | ⟨j, rfl, h0, h1, h⟩
  · exact .inl ⟨rfl, rfl⟩
  · exact .inr ⟨j, rfl, h0, by omega, h⟩
def pL {α : Type} (C : Cod α) (f : List α → Option (List β × Option AV)) : List AV → St → Option (List β × Option AV) := fun xs s => match xs with
  | [v] => match read C s v with
    | some l => if l.length ≤ lim then f l else none
    | none => none
  | _ => none
def pLL {α γ : Type} (C : Cod α) (D : Cod γ) (f : List α → List γ → Option (List β × Option AV)) : List AV → St → Option (List β × Option AV) := fun xs s => match xs with
  | [v, w] => match read C s v, read D s w with
    | some l, some m => if l.length ≤ lim ∧ m.length ≤ lim then f l m else none
    | _, _ => none
  | _ => none
theorem pL_some {α : Type} {C : Cod α} {f : List α → Option (List β × Option AV)} {xs : List AV} {s : St} {r : List β × Option AV} (h : pL C f xs s = some r) : ∃ v l, xs = [v] ∧ read C s v = some l ∧ l.length ≤ lim ∧ f l = some r := by
  unfold pL at h
  split at h
  · split at h
    · split at h
      · rename_i v _ l hr hl
        exact ⟨v, l, rfl, hr, hl, h⟩
      · cases h
    · cases h
  · cases h
theorem pLL_some {α γ : Type} {C : Cod α} {D : Cod γ} {f : List α → List γ → Option (List β × Option AV)} {xs : List AV} {s : St} {r : List β × Option AV} (h : pLL C D f xs s = some r) :
    ∃ v w l m, xs = [v, w] ∧ read C s v = some l ∧ read D s w = some m ∧ l.length ≤ lim ∧ m.length ≤ lim ∧ f l m = some r := by
  unfold pLL at h
  split at h
  · split at h
    · split at h
      · rename_i v w _ _ l m hr hw hl
        exact ⟨v, w, l, m, rfl, hr, hw, hl.1, hl.2, h⟩
      · cases h
    · cases h
  · cases h
theorem fresh_L {α : Type} {C : Cod α} {D : Cod β} {f : List α → Option (List β × Option AV)} {s : St} {v : AV} {l : List α} (h : read C s v = some l) (hl : l.length ≤ lim) {r : List β} {e : Option AV} (hf : f l = some (r, e)) (he : ∀ x, e = some x → x.plain = true) :
    ∃ w t, acall (conF D (pL C f)) false [v] s = some (mkR e w, t) ∧ Keep s t ∧ Own D s t w r :=
  acall_fresh (by simp only [pL, read_low, h, hl, hf, if_true]) he
theorem fresh_LL {α γ : Type} {C : Cod α} {G : Cod γ} {D : Cod β} {f : List α → List γ → Option (List β × Option AV)} {s : St} {v w : AV} {l : List α} {m : List γ} (h : read C s v = some l) (k : read G s w = some m) (hl : l.length ≤ lim) (hm : m.length ≤ lim) {r : List β} {e : Option AV}
    (hf : f l m = some (r, e)) (he : ∀ x, e = some x → x.plain = true) : ∃ u t, acall (conF D (pLL C G f)) false [v, w] s = some (mkR e u, t) ∧ Keep s t ∧ Own D s t u r :=
  acall_fresh (by simp only [pLL, read_low, h, k, hl, hm, and_self, hf, if_true]) he
theorem mkR_none (v : AV) : mkR none v = v := nrfl rfl
theorem mkR_some (e v : AV) : mkR (some e) v = .tup [v, e] := nrfl rfl

/-! ### Appending by value -/
variable {call : Nat → List AV → St → Option (AV × St)} {env : Env} {s t : St}
def appV (s : St) (sz bytes : Nat) (a x : AV) : Option (AV × St) := match shown s sz x, lenOf x with
  | some new, some k => aappend s sz bytes a new k
  | _, _ => none
theorem ae_app (sz b : Nat) (z : List AV) (a x : AO) : aeff call env s (.app sz b z a x) = appV s sz b (aev env a) (aev env x) := nrfl rfl
theorem appV_list {C : Cod β} {t : St} {v x : AV} {l m : List β} (hK : Keep s t) (hO : Own C s t v l) (hr : read C t x = some m) (bytes : Nat) (hb : (l.length + m.length) * bytes ≤ roomBytes) :
    ∃ v' t', appV t C.sz bytes v x = some (v', t') ∧ Keep s t' ∧ Own C s t' v' (l ++ m) := by
  simp only [appV, read_shown hr, read_len hr]
  exact append_own hK hO m bytes hb
/-- One value, laid into a row of its own before. -/
theorem appV_one {C : Cod β} {t : St} {v : AV} {l : List β} (hK : Keep s t) (hO : Own C s t v l) (x : β) (bytes : Nat) (hb : (l.length + 1) * bytes ≤ roomBytes) :
    ∃ v' t', appV (t.push (.row (C.enc x) true)) C.sz bytes v (.sl t.next 0 1 (some 1) C.sz) = some (v', t') ∧ Keep s t' ∧ Own C s t' v' (l ++ [x]) := by
  have hr : read C (t.push (.row (C.enc x) true)) (.sl t.next 0 1 (some 1) C.sz) = some [x] := by
    refine read_of rfl (St.get_push_new _ _) (by simp [C.len]) ?_
    rw [cells_one, List.drop_zero, Nat.one_mul, ← C.len x]
    simp
  exact appV_list (hK.push _) (hO.push _) hr bytes (by simpa using hb)
def slcV (sz : Nat) (x : AV) (lo hi : Option AV) : Option AV := match x with
  | .sl id off len cap z =>
    if z = sz then
      match cap with
      | some c => match optNat hi c len with
          | some h => match optNat lo h 0 with
            | some l => some (.sl id (off + l * sz) (h - l) (some (c - l)) sz)
            | none => none
          | none => none
      | none => match optNat hi len len with
          | some h => match optNat lo h 0 with
            | some l => some (.sl id (off + l * sz) (h - l) none sz)
            | none => none
          | none => none
    else none
  | .nils => match (some 0 : Option Nat), optNat hi 0 0, optNat lo 0 0 with
      | some _, some _, some _ => some .nils
      | _, _, _ => none
  | _ => none
theorem ap_slc (sz : Nat) (x : AO) (lo hi : Option AO) : apure env (.slc sz x lo hi none) = slcV sz (aev env x) (lo.map (aev env)) (hi.map (aev env)) := by
  simp only [apure, slcV]
  cases hx : aev env x with
  | sl id off len cap z =>
    cases cap <;> simp [optNat] <;> rfl
  | nils =>
    simp only [optNat, Option.map_none, Option.isSome_none, Bool.false_and, Bool.false_eq_true, if_false]
    rfl
  | _ => rfl
theorem asNatIn_nat {k : IntKind} {i : Int} {n m : Nat} (hi : i = (n : Int)) (h : n ≤ m) : asNatIn (.int k i) m = some n := by
  subst hi
  simp [asNatIn, h]
theorem slc_lo {C : Cod β} {s : St} {v : AV} {l : List β} (hr : read C s v = some l) {k : IntKind} {i : Int} {n : Nat} (hi : i = (n : Int)) (hn : n ≤ l.length) :
    ∃ v', slcV C.sz v (some (.int k i)) none = some v' ∧ ∀ t, Keep s t → read C t v' = some (l.drop n) := by
  cases v with
  | nils =>
    simp [read] at hr
    subst hr
    have : n = 0 := by simpa using hn
    subst this
    exact ⟨.nils, by simp [slcV, optNat, asNatIn, hi], fun t _ => by simp [read]⟩
  | sl id off len cap z =>
    obtain ⟨rfl, rfl, _⟩ := read_sl hr
    cases cap with
    | none => exact ⟨.sl id (off + n * C.sz) (l.length - n) none C.sz, by simp [slcV, optNat, asNatIn_nat hi hn], fun t hK => read_drop (hK.read hr) n rfl hn⟩
    | some c =>
      by_cases hc : n ≤ c ∧ l.length ≤ c
      · refine ⟨.sl id (off + n * C.sz) (l.length - n) (some (c - n)) C.sz, ?_, fun t hK => read_drop (hK.read hr) n rfl hn⟩
        simp only [slcV, if_true, optNat, asNatIn_nat hi hn]
      · refine ⟨.sl id (off + n * C.sz) (l.length - n) (some (c - n)) C.sz, ?_, fun t hK => read_drop (hK.read hr) n rfl hn⟩
        simp only [slcV, if_true, optNat, asNatIn_nat hi hn]
  | _ => simp [read] at hr
theorem slc_hi {C : Cod β} {s : St} {v : AV} {l : List β} (hr : read C s v = some l) (hcap : ∀ id off n c z, v = .sl id off n (some c) z → n ≤ c) {k : IntKind} {i : Int} {n : Nat} (hi : i = (n : Int)) (hn : n ≤ l.length) :
    ∃ v', slcV C.sz v none (some (.int k i)) = some v' ∧ ∀ t, Keep s t → read C t v' = some (l.take n) := by
  cases v with
  | nils =>
    simp [read] at hr
    subst hr
    have : n = 0 := by simpa using hn
    subst this
    exact ⟨.nils, by simp [slcV, optNat, asNatIn, hi], fun t _ => by simp [read]⟩
  | sl id off len cap z =>
    obtain ⟨rfl, rfl, _⟩ := read_sl hr
    cases cap with
    | none =>
      refine ⟨.sl id off n none C.sz, ?_, fun t hK => read_take (hK.read hr) n hn⟩
      simp [slcV, optNat, asNatIn_nat hi hn]
    | some c =>
      have := hcap _ _ _ _ _ rfl
      refine ⟨.sl id off n (some c) C.sz, ?_, fun t hK => read_take (hK.read hr) n hn⟩
      simp [slcV, optNat, asNatIn_nat hi (show n ≤ c by omega)]
  | _ => simp [read] at hr
end Go.AM
end
/-
  Functions that make a new list: dots, Copy, Join; store.Valid. Own work of this project; in part printed by a program of it.
-/
section
set_option linter.unusedVariables false
set_option linter.unusedSimpArgs false
set_option maxRecDepth 100000
set_option maxHeartbeats 4000000
namespace Go.AM
open Go Go.Proofs

def gCopy (l : List Nd) : Option (List Nd × Option AV) := some (l, none)
theorem s_RCopy : SoundAt Try.prog 27 (conF ndC (pL ndC gCopy)) :=
  con_fresh (tb_sound (l := []) (by simp)) mixed Try.func27 k27 c27 fun args s r ee h => by
    obtain ⟨v, l, rfl, hr, hl, hp⟩ := pL_some h
    injection hp with hp
    obtain ⟨rfl, rfl⟩ := Prod.mk.inj hp
    refine ⟨by simp, by simp [a27], fun env hlen ha => ?_⟩
    have h0 : E env 0 = _ := ha 0 _ rfl
    have hlen : elen env = _ := hlen
    simp only [a27] at hlen
    unfold a27
    try dsimp only [oO, oG]
    obtain ⟨v', t', hap, hK, hO⟩ := appV_list (.refl s) (.nil ndC s s) hr 48 (by unfold lim at hl; simp [roomBytes]; omega)
    have hap : appV s 6 48 .nils v = _ := hap
    simp (config := {contextual := true, maxDischargeDepth := 12}) only [tb, h0, hlen, hap, ↓bD, bU, forall_const, List.all_cons, List.all_nil, Option.map_some, List.map_cons, List.map_nil, ne_eq, implies_true, isNx, cstep_bool, ↓wp_cond, ↓wp_loop, ↓reduceIte, reduceCtorEq, Nat.reduceEqDiff, Nat.reduceLT, Nat.reduceAdd, Nat.reduceMul, Int.ofNat_lt, Int.ofNat_le, exists_const, ae_app, ap_slc, Option.map_none, mkR_none, mkR_some]
    exact ⟨hK, by simpa using hO⟩

theorem take_snoc {α : Type} {l : List α} {i : Nat} {x : α} (h : l[i]? = some x) : l.take (i + 1) = l.take i ++ [x] := by
  rw [List.take_add_one, h]
  rfl
theorem fst_dot (x : Dot) : fstep [.int .i64 0, .int .i64 0] 0 2 (.agg (Dot.av x)) some = some (Dot.av x) := rfl
def gDots (l : List Nd) : Option (List Dot × Option AV) := some (l.map Nd.d, none)
theorem s_Dots : SoundAt Try.prog 61 (conF dotC (pL ndC gDots)) :=
  con_fresh (tb_sound (l := []) (by simp)) mixed Try.func61 k61 c61 fun args s r ee h => by
    obtain ⟨v, l, rfl, hr, hl, hp⟩ := pL_some h
    injection hp with hp
    obtain ⟨rfl, rfl⟩ := Prod.mk.inj hp
    refine ⟨by simp, by simp [a61], fun env hlen ha => ?_⟩
    have h0 : E env 0 = _ := ha 0 _ rfl
    have hlen : elen env = _ := hlen
    simp only [a61] at hlen
    unfold a61
    try dsimp only [oO, oG]
    have hL := lenV_read hr
    simp (config := {contextual := true, maxDischargeDepth := 12}) only [tb, h0, hlen, hL, ↓bD, bU, forall_const, List.all_cons, List.all_nil, Option.map_some, List.map_cons, List.map_nil, ne_eq, implies_true, isNx, cstep_bool, ↓wp_cond, ↓wp_loop, ↓reduceIte, reduceCtorEq, Nat.reduceEqDiff, Nat.reduceLT, Nat.reduceAdd, Nat.reduceMul, Int.ofNat_lt, Int.ofNat_le, exists_const, ae_app, ap_slc, Option.map_none, mkR_none, mkR_some]
    refine lwp_inv (fun n e t => Keep s t ∧ ∃ i : Nat, n + i = l.length ∧ elen e = 19 ∧ E e 6 = v ∧ E e 7 = .int .i64 (l.length : Int) ∧ E e 8 = .int .i64 (i : Int) ∧ Own dotC s t (E e 3) ((l.take i).map Nd.d)) (n := l.length) ⟨.refl s, 0, by omega, by simp only [E_pne, E_psame, elen_put, Nat.reduceEqDiff, ne_eq, not_false_eq_true, Nat.reduceLT, hlen], by simp only [E_pne, E_psame, elen_put, Nat.reduceEqDiff, ne_eq, not_false_eq_true, Nat.reduceLT, hlen], by simp only [E_pne, E_psame, elen_put, Nat.reduceEqDiff, ne_eq, not_false_eq_true, Nat.reduceLT, hlen], by simp only [E_pne, E_psame, elen_put, Nat.reduceEqDiff, ne_eq, not_false_eq_true, Nat.reduceLT, hlen]; rfl, by simp only [E_pne, E_psame, elen_put, Nat.reduceEqDiff, ne_eq, not_false_eq_true, Nat.reduceLT, hlen]; exact .nil _ _ _⟩ ?_
    · rintro n e t ⟨hK, i, hn, he, e6, e7, e8, hO⟩
      by_cases hlt : i < l.length
      · obtain ⟨x, hx⟩ := getsome hlt
        have hw2 := wrap_add1 (n := i) (by unfold lim at hl; omega)
        obtain ⟨a1, _⟩ := nd_lods hr hK hx
        have i1 := nd_idx hr hx .i64
        obtain ⟨v', t', hap, hK', hO'⟩ := appV_one (C := dotC) (hK.lowed.push (.row (Nd.av x) true)) (hO.lowed.push _) x.d 16 (by unfold lim at hl; simp [roomBytes]; omega)
        have hap : appV ((t.lowed.push (.row (Nd.av x) true)).push (.row (Dot.av x.d) true)) 2 16 (E e 3) (.sl (t.lowed.push (.row (Nd.av x) true)).next 0 1 (some 1) 2) = some (v', t') := hap
        simp (config := {contextual := true, maxDischargeDepth := 12}) only [tb, e6, e7, e8, he, hL, hlt, hw2, a1, i1, hap, ↓bD, bU, forall_const, List.all_cons, List.all_nil, Option.map_some, List.map_cons, List.map_nil, ne_eq, implies_true, isNx, cstep_bool, ↓wp_cond, ↓wp_loop, ↓reduceIte, reduceCtorEq, Nat.reduceEqDiff, Nat.reduceLT, Nat.reduceAdd, Nat.reduceMul, Int.ofNat_lt, Int.ofNat_le, exists_const, ae_app, ap_slc, Option.map_none, mkR_none, mkR_some]
        refine ⟨⟨n - 1, by omega, hK', i + 1, by omega, rfl, ?_⟩, fun hf => hf.elim⟩
        rw [take_snoc hx, List.map_append]
        exact hO'
      · obtain rfl : i = l.length := by omega
        rw [List.take_length] at hO
        simp (config := {contextual := true, maxDischargeDepth := 12}) only [tb, e6, e7, e8, he, hL, hlt, ↓bD, bU, forall_const, List.all_cons, List.all_nil, Option.map_some, List.map_cons, List.map_nil, ne_eq, implies_true, isNx, cstep_bool, ↓wp_cond, ↓wp_loop, ↓reduceIte, reduceCtorEq, Nat.reduceEqDiff, Nat.reduceLT, Nat.reduceAdd, Nat.reduceMul, Int.ofNat_lt, Int.ofNat_le, exists_const, ae_app, ap_slc, Option.map_none, mkR_none, mkR_some]
        exact ⟨fun hf => hf.elim, hK, _, rfl, hO⟩

def fValid (l : List Nd) : AV := .bool (storeL l)
theorem storeL_set (l : List Nd) : storeL l = (l.all Nd.valid && setD (l.map Nd.d)) := by
  have : setD (l.map Nd.d) = chain ndLt l := by
    unfold setD
    rw [Bool.eq_iff_iff, chain_iff, chain_iff]
    constructor
    · intro h i x y hx hy
      exact h i x.d y.d (by simp [hx]) (by simp [hy])
    · intro h i x y hx hy
      simp only [List.getElem?_map, Option.map_eq_some_iff] at hx hy
      obtain ⟨x, hx, rfl⟩ := hx
      obtain ⟨y, hy, rfl⟩ := hy
      exact h i x y hx hy
  rw [storeL, this]
theorem s_StValid : SoundAt Try.prog 47 (conL ndC fValid) :=
  con_keep (tb_sound (l := [(54, conLfn fHasBad 55), (61, conF dotC (pL ndC gDots)), (60, conL dotC fIsSet)]) (by simpa using ⟨s_HasBad, s_Dots, s_IsSet⟩)) mixed Try.func47 k47 c47 fun args s r s' h => by
    obtain ⟨v, l, rfl, hr, hl, rfl, rfl⟩ := conL_some h
    refine ⟨rfl, rfl, by simp [a47], fun env hlen ha => ?_⟩
    have h0 : E env 0 = _ := ha 0 _ rfl
    have hlen : elen env = _ := hlen
    simp only [a47] at hlen
    unfold a47
    try dsimp only [oO, oG]
    have hq := q_HasBad false hr hl
    cases hv : l.all Nd.valid
    · rw [hv] at hq
      simp (config := {contextual := true, maxDischargeDepth := 12}) only [tb, hq, h0, hlen, ↓bD, bU, forall_const, List.all_cons, List.all_nil, Option.map_some, List.map_cons, List.map_nil, ne_eq, implies_true, isNx, cstep_bool, ↓wp_cond, ↓wp_loop, ↓reduceIte, reduceCtorEq, Nat.reduceEqDiff, Nat.reduceLT, Nat.reduceAdd, Nat.reduceMul, Int.ofNat_lt, Int.ofNat_le, exists_const, ae_app, ap_slc, Option.map_none, mkR_none, mkR_some]
      simp [fValid, storeL_set, hv]
    · rw [hv] at hq
      obtain ⟨w, t, hd, hK, hO⟩ := fresh_L (D := dotC) (f := gDots) hr hl rfl (by simp)
      rw [mkR_none] at hd
      have hq2 := q_IsSet false hO.read (by simpa using hl)
      simp (config := {contextual := true, maxDischargeDepth := 12}) only [tb, hq, hd, hq2, h0, hlen, ↓bD, bU, forall_const, List.all_cons, List.all_nil, Option.map_some, List.map_cons, List.map_nil, ne_eq, implies_true, isNx, cstep_bool, ↓wp_cond, ↓wp_loop, ↓reduceIte, reduceCtorEq, Nat.reduceEqDiff, Nat.reduceLT, Nat.reduceAdd, Nat.reduceMul, Int.ofNat_lt, Int.ofNat_le, exists_const, ae_app, ap_slc, Option.map_none, mkR_none, mkR_some]
      exact ⟨by simp [fValid, storeL_set, hv], hK⟩
theorem q_StValid (cl : Bool) {v : AV} {l : List Nd} {s : St} (h : read ndC s v = some l) (hl : l.length ≤ lim) : acall (conL ndC fValid) cl [v] s = some (.bool (storeL l), s) := conL_call (fun _ => rfl) h hl cl
theorem s_JValid : SoundAt Try.prog 35 (conL ndC fValid) :=
  con_keep (tb_sound (l := [(47, conL ndC fValid)]) (by simpa using s_StValid)) mixed Try.func35 k35 c35 fun args s r s' h => by
    obtain ⟨v, l, rfl, hr, hl, rfl, rfl⟩ := conL_some h
    refine ⟨rfl, rfl, by simp [a35], fun env hlen ha => ?_⟩
    have h0 : E env 0 = _ := ha 0 _ rfl
    have hlen : elen env = _ := hlen
    simp only [a35] at hlen
    unfold a35
    try dsimp only [oO, oG]
    have hq := q_StValid false hr hl
    simp (config := {contextual := true, maxDischargeDepth := 12}) only [tb, hq, h0, hlen, ↓bD, bU, forall_const, List.all_cons, List.all_nil, Option.map_some, List.map_cons, List.map_nil, ne_eq, implies_true, isNx, cstep_bool, ↓wp_cond, ↓wp_loop, ↓reduceIte, reduceCtorEq, Nat.reduceEqDiff, Nat.reduceLT, Nat.reduceAdd, Nat.reduceMul, Int.ofNat_lt, Int.ofNat_le, exists_const, ae_app, ap_slc, Option.map_none, mkR_none, mkR_some]
    rfl

end Go.AM
end
/-
  The program's join of two states. Own work of this project; in part printed by a program of it.
-/
section
set_option linter.unusedVariables false
set_option linter.unusedSimpArgs false
set_option maxRecDepth 100000
set_option maxHeartbeats 4000000
namespace Go.AM
open Go Go.Proofs

theorem dcmp_cases (a b : Dot) : (dcmp a b = -1 ∧ a.before b = true ∧ b.before a = false) ∨ (dcmp a b = 1 ∧ a.before b = false ∧ b.before a = true) ∨ (dcmp a b = 0 ∧ a.before b = false ∧ b.before a = false ∧ a = b) := by
  obtain ⟨ar, ac⟩ := a
  obtain ⟨br, bc⟩ := b
  simp only [dcmp, cmpI, Dot.before]
  by_cases h1 : ac < bc
  · left
    simp [h1, show ¬ bc < ac by omega, show ¬ bc = ac by omega]
  · by_cases h2 : bc < ac
    · right; left
      simp [h1, h2, show ¬ ac = bc by omega]
    · obtain rfl : ac = bc := by omega
      by_cases h3 : ar < br
      · left
        simp [h3, show ¬ br < ar by omega]
      · by_cases h4 : br < ar
        · right; left
          simp [h3, h4]
        · obtain rfl : ar = br := by omega
          right; right
          simp
theorem cs_dec (p : Prop) [Decidable p] (A B : Prop) : cstep (.bool (decide p)) A B = ((p → A) ∧ (¬ p → B)) := by by_cases h : p <;> simp [cstep, h]
theorem cs_not (b : Bool) (A B : Prop) : cstep (.bool (!b)) A B = cstep (.bool b) B A := by cases b <;> rfl
theorem cs_and (a b : Bool) (A B : Prop) : cstep (.bool (a && b)) A B = ((a = true ∧ b = true → A) ∧ ((a && b) = false → B)) := by cases a <;> cases b <;> simp [cstep]
theorem cs_or (a b : Bool) (A B : Prop) : cstep (.bool (a || b)) A B = (((a || b) = true → A) ∧ (a = false ∧ b = false → B)) := by cases a <;> cases b <;> simp [cstep]
theorem cs_valid (x : Nd) (A B : Prop) : cstep (.bool x.valid) A B = ((x.valid = true → A) ∧ (x.valid = false → B)) := cstep_bool _ _ _
def joinL : List Nd → List Nd → Option (List Nd)
  | [], b => some b
  | x :: a, [] => some (x :: a)
  | x :: a, y :: b =>
    if x.d.before y.d = true then (joinL a (y :: b)).map (x :: ·)
    else if y.d.before x.d = true then (joinL (x :: a) b).map (y :: ·)
    else if x.clash y = true then none
    else (joinL a b).map (x.merge y :: ·)
termination_by a b => a.length + b.length
theorem joinL_nil (a : List Nd) : joinL a [] = some a := by cases a <;> simp [joinL]
def gJoin (a b : List Nd) : Option (List Nd × Option AV) :=
  if storeL a = true ∧ storeL b = true then match joinL a b with
    | some l => some (l, some (.int .i64 0))
    | none => some ([], some (.int .i64 15))
  else some ([], some (.int .i64 2))
theorem gJoin_plain {a b : List Nd} {l : List Nd} {e : Option AV} (h : gJoin a b = some (l, e)) : ∀ x, e = some x → x.plain = true := by
  unfold gJoin at h
  repeat' split at h
  all_goals
    injection h with h
    obtain ⟨_, rfl⟩ := Prod.mk.inj h
    intro x hx
    injection hx with hx
    subst hx
    rfl
theorem s_Join : SoundAt Try.prog 23 (conF ndC (pLL ndC ndC gJoin)) :=
  con_fresh (tb_sound (l := [(35, conL ndC fValid), (38, conDD fCmp), (39, conNN fMerge)]) (by simpa using ⟨s_JValid, s_Cmp, s_Merge⟩)) mixed Try.func23 k23 c23 fun args s r ee h => by
    obtain ⟨v, w, l, m, rfl, hr, hw, hl, hm, hp⟩ := pLL_some h
    refine ⟨gJoin_plain hp, by simp [a23], fun env hlen ha => ?_⟩
    have h0 : E env 0 = _ := ha 0 _ rfl
    have h1 : E env 1 = _ := ha 1 _ rfl
    have hlen : elen env = _ := hlen
    simp only [a23] at hlen
    unfold a23
    try dsimp only [oO, oG]
    have q1 := q_StValid false hr hl
    have q2 := q_StValid false hw hm
    unfold gJoin at hp
    by_cases hv : storeL l = true ∧ storeL m = true
    rotate_left
    · rw [if_neg hv] at hp
      injection hp with hp
      obtain ⟨rfl, rfl⟩ := Prod.mk.inj hp
      have hv : (!storeL l || !storeL m) = true := by
        cases h1 : storeL l <;> cases h2 : storeL m <;> simp_all
      simp (config := {contextual := true, maxDischargeDepth := 12}) only [tb, q1, q2, hv, h0, h1, hlen, ↓bD, bU, forall_const, List.all_cons, List.all_nil, Option.map_some, List.map_cons, List.map_nil, ne_eq, implies_true, isNx, cs_dec, cs_not, cs_and, cs_or, cs_valid, eq_self, ↓wp_cond, ↓wp_loop, ↓reduceIte, reduceCtorEq, Nat.reduceEqDiff, Nat.reduceLT, Nat.reduceAdd, Nat.reduceMul, Int.ofNat_lt, Int.ofNat_le, exists_const, ae_app, ap_slc, Option.map_none, mkR_none, mkR_some]
      exact ⟨_, rfl, .nil _ _ _⟩
    · rw [if_pos hv] at hp
      obtain ⟨hv1, hv2⟩ := hv
      rw [hv1] at q1
      rw [hv2] at q2
      have hA : ∀ x ∈ l, x.valid = true := by
        simp only [storeL, Bool.and_eq_true, List.all_eq_true] at hv1
        exact hv1.1
      have hB : ∀ x ∈ m, x.valid = true := by
        simp only [storeL, Bool.and_eq_true, List.all_eq_true] at hv2
        exact hv2.1
      simp (config := {contextual := true, maxDischargeDepth := 12}) only [tb, q1, q2, h0, h1, hlen, ↓bD, bU, forall_const, List.all_cons, List.all_nil, Option.map_some, List.map_cons, List.map_nil, ne_eq, implies_true, isNx, cs_dec, cs_not, cs_and, cs_or, cs_valid, eq_self, ↓wp_cond, ↓wp_loop, ↓reduceIte, reduceCtorEq, Nat.reduceEqDiff, Nat.reduceLT, Nat.reduceAdd, Nat.reduceMul, Int.ofNat_lt, Int.ofNat_le, exists_const, ae_app, ap_slc, Option.map_none, mkR_none, mkR_some]
      obtain ⟨I, hI⟩ : ∃ I : Nat → Env → St → Prop, ∀ n e t, I n e t = ( Keep s t ∧ ∃ (a b acc : List Nd) (v' w' : AV), n = a.length + b.length ∧ elen e = 80 ∧ E e 0 = v' ∧ E e 1 = w' ∧ read ndC s v' = some a ∧ read ndC s w' = some b ∧ Own ndC s t (E e 6) acc ∧ acc.length + a.length + b.length ≤ 2000000 ∧ joinL l m = (joinL a b).map (acc ++ ·) ∧ (∀ x ∈ a, x.valid = true) ∧ ∀ x ∈ b, x.valid = true) := ⟨fun n e t => ( Keep s t ∧ ∃ (a b acc : List Nd) (v' w' : AV), n = a.length + b.length ∧ elen e = 80 ∧ E e 0 = v' ∧ E e 1 = w' ∧ read ndC s v' = some a ∧ read ndC s w' = some b ∧ Own ndC s t (E e 6) acc ∧ acc.length + a.length + b.length ≤ 2000000 ∧ joinL l m = (joinL a b).map (acc ++ ·) ∧ (∀ x ∈ a, x.valid = true) ∧ ∀ x ∈ b, x.valid = true), fun _ _ _ => rfl⟩
      refine lwp_inv I (n := l.length + m.length) ?_ ?_
      · rw [hI]
        exact ⟨.refl s, l, m, [], v, w, rfl, by simp only [E_pne, E_psame, elen_put, Nat.reduceEqDiff, ne_eq, not_false_eq_true, Nat.reduceLT, hlen], by simp only [E_pne, E_psame, elen_put, Nat.reduceEqDiff, ne_eq, not_false_eq_true, Nat.reduceLT, h0], by simp only [E_pne, E_psame, elen_put, Nat.reduceEqDiff, ne_eq, not_false_eq_true, Nat.reduceLT, h1], hr, hw, by simp only [E_pne, E_psame, elen_put, Nat.reduceEqDiff, ne_eq, not_false_eq_true, Nat.reduceLT, hlen]; exact .nil _ _ _, by unfold lim at *; simp; omega, by simp, hA, hB⟩
      intro n e t hi
      rw [hI] at hi
      obtain ⟨hK, a, b, acc, v', w', rfl, he, e0, e1, hra, hrb, hO, hle, hj, ha', hb'⟩ := hi
      have hL := lenV_read hra
      have hM := lenV_read hrb
      rcases a with _ | ⟨x, a⟩
      · have hz : ((0 : Int) < (([] : List Nd).length : Int)) = False := eq_false (by simp)
        simp only [joinL, Option.map_some] at hj
        rw [hj] at hp
        injection hp with hp
        obtain ⟨rfl, rfl⟩ := Prod.mk.inj hp
        obtain ⟨u1, t1, hap1, hK1, hO1⟩ := appV_list hK hO (hK.read hra) 48 (by simp [roomBytes] at *; omega)
        obtain ⟨u2, t2, hap2, hK2, hO2⟩ := appV_list hK1 hO1 (hK1.read hrb) 48 (by simp [roomBytes] at *; omega)
        have hap1 : appV t 6 48 (E e 6) v' = _ := hap1
        have hap2 : appV t1 6 48 u1 w' = _ := hap2
        simp (config := {contextual := true, maxDischargeDepth := 12}) only [tb, e0, e1, he, hL, hM, hap1, hap2, hz, ↓bD, bU, forall_const, List.all_cons, List.all_nil, Option.map_some, List.map_cons, List.map_nil, ne_eq, implies_true, isNx, cs_dec, cs_not, cs_and, cs_or, cs_valid, eq_self, ↓wp_cond, ↓wp_loop, ↓reduceIte, reduceCtorEq, Nat.reduceEqDiff, Nat.reduceLT, Nat.reduceAdd, Nat.reduceMul, Int.ofNat_lt, Int.ofNat_le, exists_const, ae_app, ap_slc, Option.map_none, mkR_none, mkR_some]
        exact ⟨hK2, _, rfl, by simpa using hO2⟩
      rcases b with _ | ⟨y, b⟩
      · have hz : ((0 : Int) < (([] : List Nd).length : Int)) = False := eq_false (by simp)
        have hz2 : ((0 : Int) < ((x :: a).length : Int)) = True := eq_true (by simp)
        simp only [joinL_nil, Option.map_some] at hj
        rw [hj] at hp
        injection hp with hp
        obtain ⟨rfl, rfl⟩ := Prod.mk.inj hp
        obtain ⟨u1, t1, hap1, hK1, hO1⟩ := appV_list hK hO (hK.read hra) 48 (by simp [roomBytes] at *; omega)
        obtain ⟨u2, t2, hap2, hK2, hO2⟩ := appV_list hK1 hO1 (hK1.read hrb) 48 (by simp [roomBytes] at *; omega)
        have hap1 : appV t 6 48 (E e 6) v' = _ := hap1
        have hap2 : appV t1 6 48 u1 w' = _ := hap2
        simp (config := {contextual := true, maxDischargeDepth := 12}) only [tb, e0, e1, he, hL, hM, hap1, hap2, hz, hz2, ↓bD, bU, forall_const, List.all_cons, List.all_nil, Option.map_some, List.map_cons, List.map_nil, ne_eq, implies_true, isNx, cs_dec, cs_not, cs_and, cs_or, cs_valid, eq_self, ↓wp_cond, ↓wp_loop, ↓reduceIte, reduceCtorEq, Nat.reduceEqDiff, Nat.reduceLT, Nat.reduceAdd, Nat.reduceMul, Int.ofNat_lt, Int.ofNat_le, exists_const, ae_app, ap_slc, Option.map_none, mkR_none, mkR_some]
        exact ⟨hK2, _, rfl, by simpa using hO2⟩
      have hz1 : ((0 : Int) < ((x :: a).length : Int)) = True := eq_true (by simp)
      have hz2 : ((0 : Int) < ((y :: b).length : Int)) = True := eq_true (by simp)
      obtain ⟨i1, a1, a2, al⟩ := nd_head hra hK
      obtain ⟨i2, b1, b2, bl⟩ := nd_head hrb hK
      obtain ⟨v1, hs1, hr1⟩ := slc_lo hra (k := .i64) (i := 1) (n := 1) rfl (by simp)
      obtain ⟨w1, hs2, hr2⟩ := slc_lo hrb (k := .i64) (i := 1) (n := 1) rfl (by simp)
      have hr1 := hr1 s (.refl s)
      have hr2 := hr2 s (.refl s)
      have hs1 : slcV 6 v' (some (.int .i64 1)) none = some v1 := hs1
      have hs2 : slcV 6 w' (some (.int .i64 1)) none = some w1 := hs2
      simp only [List.drop_succ_cons, List.drop_zero] at hr1 hr2
      have one : ∀ z : Nd, ∃ u t1, appV (t.push (.row (Nd.av z) true)) 6 48 (E e 6) (.sl t.next 0 1 (some 1) 6) = some (u, t1) ∧ Keep s t1 ∧ Own ndC s t1 u (acc ++ [z]) := fun z =>
        appV_one (C := ndC) hK hO z 48 (by simp [roomBytes] at *; omega)
      rcases dcmp_cases x.d y.d with ⟨hd, hb1, hb2⟩ | ⟨hd, hb1, hb2⟩ | ⟨hd, hb1, hb2, hxy⟩
      · obtain ⟨u, t1, hap, hK1, hO1⟩ := one x
        simp only [joinL, hb1, if_true, Option.map_map] at hj
        simp (config := {contextual := true, maxDischargeDepth := 12}) only [tb, q_Cmp, e0, e1, he, hL, hM, hz1, hz2, i1, i2, a1, a2, al, b1, b2, bl, hd, hs1, hap, ↓bD, bU, forall_const, List.all_cons, List.all_nil, Option.map_some, List.map_cons, List.map_nil, ne_eq, implies_true, isNx, cs_dec, cs_not, cs_and, cs_or, cs_valid, eq_self, ↓wp_cond, ↓wp_loop, ↓reduceIte, reduceCtorEq, Nat.reduceEqDiff, Nat.reduceLT, Nat.reduceAdd, Nat.reduceMul, Int.ofNat_lt, Int.ofNat_le, exists_const, ae_app, ap_slc, Option.map_none, mkR_none, mkR_some]
        refine ⟨a.length + (y :: b).length, by simp, ?_⟩
        rw [hI]
        refine ⟨hK1, a, y :: b, acc ++ [x], v1, w', rfl, by simp only [E_pne, E_psame, elen_put, Nat.reduceEqDiff, ne_eq, not_false_eq_true, Nat.reduceLT, he], by simp only [E_pne, E_psame, elen_put, Nat.reduceEqDiff, ne_eq, not_false_eq_true, Nat.reduceLT, he], by simp only [E_pne, E_psame, elen_put, Nat.reduceEqDiff, ne_eq, not_false_eq_true, Nat.reduceLT, e1], hr1, hrb, by simp only [E_pne, E_psame, elen_put, Nat.reduceEqDiff, ne_eq, not_false_eq_true, Nat.reduceLT, he]; exact hO1, by simp at *; omega, ?_, fun z hz => ha' z (by simp [hz]), hb'⟩
        rw [hj]
        congr 1
        funext q
        simp
      · obtain ⟨u, t1, hap, hK1, hO1⟩ := one y
        have hd1 : ((1 : Int) = -1) = False := by decide
        simp only [joinL, hb1, hb2, Bool.false_eq_true, if_false, if_true, Option.map_map] at hj
        simp (config := {contextual := true, maxDischargeDepth := 12}) only [tb, q_Cmp, e0, e1, he, hL, hM, hz1, hz2, i1, i2, a1, a2, al, b1, b2, bl, hd, hd1, hs2, hap, ↓bD, bU, forall_const, List.all_cons, List.all_nil, Option.map_some, List.map_cons, List.map_nil, ne_eq, implies_true, isNx, cs_dec, cs_not, cs_and, cs_or, cs_valid, eq_self, ↓wp_cond, ↓wp_loop, ↓reduceIte, reduceCtorEq, Nat.reduceEqDiff, Nat.reduceLT, Nat.reduceAdd, Nat.reduceMul, Int.ofNat_lt, Int.ofNat_le, exists_const, ae_app, ap_slc, Option.map_none, mkR_none, mkR_some]
        refine ⟨(x :: a).length + b.length, by simp, ?_⟩
        rw [hI]
        refine ⟨hK1, x :: a, b, acc ++ [y], v', w1, rfl, by simp only [E_pne, E_psame, elen_put, Nat.reduceEqDiff, ne_eq, not_false_eq_true, Nat.reduceLT, he], by simp only [E_pne, E_psame, elen_put, Nat.reduceEqDiff, ne_eq, not_false_eq_true, Nat.reduceLT, e0], by simp only [E_pne, E_psame, elen_put, Nat.reduceEqDiff, ne_eq, not_false_eq_true, Nat.reduceLT, he], hra, hr2, by simp only [E_pne, E_psame, elen_put, Nat.reduceEqDiff, ne_eq, not_false_eq_true, Nat.reduceLT, he]; exact hO1, by simp at *; omega, ?_, ha', fun z hz => hb' z (by simp [hz])⟩
        rw [hj]
        congr 1
        funext q
        simp
      · have hd1 : ((0 : Int) = -1) = False := by decide
        have hd2 : ((0 : Int) = 1) = False := by decide
        have hd3 : ((15 : Int) = 0) = False := by decide
        have hx := ha' x (by simp)
        have hy := hb' y (by simp)
        by_cases hc : x.clash y = true
        · have hMg : mergeV x y = .tup [.agg (Nd.av nd0), .int .i64 15] := by simp [mergeV, hx, hy, hc]
          simp only [joinL, hb1, hb2, hc, Bool.false_eq_true, if_false, if_true, Option.map_none] at hj
          rw [hj] at hp
          injection hp with hp
          obtain ⟨rfl, rfl⟩ := Prod.mk.inj hp
          simp (config := {contextual := true, maxDischargeDepth := 12}) only [tb, q_Cmp, q_Merge, hMg, e0, e1, he, hL, hM, hz1, hz2, i1, i2, a1, a2, al, b1, b2, bl, hd, hd1, hd2, hd3, ↓bD, bU, forall_const, List.all_cons, List.all_nil, Option.map_some, List.map_cons, List.map_nil, ne_eq, implies_true, isNx, cs_dec, cs_not, cs_and, cs_or, cs_valid, eq_self, ↓wp_cond, ↓wp_loop, ↓reduceIte, reduceCtorEq, Nat.reduceEqDiff, Nat.reduceLT, Nat.reduceAdd, Nat.reduceMul, Int.ofNat_lt, Int.ofNat_le, exists_const, ae_app, ap_slc, Option.map_none, mkR_none, mkR_some]
          exact ⟨hK.lowed.push _, _, rfl, .nil _ _ _⟩
        · have hMg : mergeV x y = .tup [.agg (Nd.av (x.merge y)), .int .i64 0] := by simp [mergeV, hx, hy, hc]
          obtain ⟨u, t1, hap, hK1, hO1⟩ := appV_one (C := ndC) (hK.lowed.push (.row (Nd.av (x.merge y)) true)) (hO.lowed.push _) (x.merge y) 48 (by simp [roomBytes] at *; omega)
          have hap : appV ((t.lowed.push (.row (Nd.av (x.merge y)) true)).push (.row (Nd.av (x.merge y)) true)) 6 48 (E e 6) (.sl (t.lowed.push (.row (Nd.av (x.merge y)) true)).next 0 1 (some 1) 6) = some (u, t1) := hap
          simp only [joinL, hb1, hb2, hc, Bool.false_eq_true, if_false, Option.map_map] at hj
          simp (config := {contextual := true, maxDischargeDepth := 12}) only [tb, q_Cmp, q_Merge, hMg, e0, e1, he, hL, hM, hz1, hz2, i1, i2, a1, a2, al, b1, b2, bl, hd, hd1, hd2, hs1, hs2, hap, ↓bD, bU, forall_const, List.all_cons, List.all_nil, Option.map_some, List.map_cons, List.map_nil, ne_eq, implies_true, isNx, cs_dec, cs_not, cs_and, cs_or, cs_valid, eq_self, ↓wp_cond, ↓wp_loop, ↓reduceIte, reduceCtorEq, Nat.reduceEqDiff, Nat.reduceLT, Nat.reduceAdd, Nat.reduceMul, Int.ofNat_lt, Int.ofNat_le, exists_const, ae_app, ap_slc, Option.map_none, mkR_none, mkR_some]
          refine ⟨a.length + b.length, by simp; omega, ?_⟩
          rw [hI]
          refine ⟨hK1, a, b, acc ++ [x.merge y], v1, w1, rfl, by simp only [E_pne, E_psame, elen_put, Nat.reduceEqDiff, ne_eq, not_false_eq_true, Nat.reduceLT, he], by simp only [E_pne, E_psame, elen_put, Nat.reduceEqDiff, ne_eq, not_false_eq_true, Nat.reduceLT, he], by simp only [E_pne, E_psame, elen_put, Nat.reduceEqDiff, ne_eq, not_false_eq_true, Nat.reduceLT, he], hr1, hr2, by simp only [E_pne, E_psame, elen_put, Nat.reduceEqDiff, ne_eq, not_false_eq_true, Nat.reduceLT, he]; exact hO1, by simp at *; omega, ?_, fun z hz => ha' z (by simp [hz]), fun z hz => hb' z (by simp [hz])⟩
          rw [hj]
          congr 1
          funext q
          simp

end Go.AM
end
/-
  Maps from dots to nodes in memory: looking up, setting, ranging. Own work of this project.
-/
section
set_option linter.unusedVariables false
set_option linter.unusedSimpArgs false
namespace Go.AM
open Go Go.Proofs

variable {call : Nat → List AV → St → Option (AV × St)} {env : Env} {s t : St}

/-! ### By value -/
def lookV (s : St) (z : AV) (k : EK) (ok : Bool) (m i : AV) : Option AV :=
  if i.key k then
    match m with
    | .nilm => some (if ok then .tup [z, .bool false] else z)
    | .mp id => match s.get id with
      | some (.map es _) => match findE k i es 0 with
        | some (some (_, v)) => some (if ok then .tup [v, .bool true] else v)
        | some none => some (if ok then .tup [z, .bool false] else z)
        | none => none
      | _ => none
    | _ => none
  else none
theorem ar_look (z : AV) (k : EK) (ok : Bool) (m i : AO) : aread call env s (.look z k ok m i) = lookV s z k ok (aev env m) (aev env i) := nrfl rfl
def msetV (s : St) (k : EK) (m i x : AV) : Option (AV × St) :=
  if i.key k && x.whole then
    match m with
    | .mp id => match s.get id with
      | some (.map es ck) => match findE k i es 0 with
        | some (some (j, _)) => match es[j]? with
          | some (_, _, b) => some (.und, s.put id (.map (es.set j (i, x, b)) ck))
          | none => none
        | some none => some (.und, s.put id (.map (es ++ [(i, x, ck)]) (ck + 1)))
        | none => none
      | _ => none
    | _ => none
  else none
theorem ae_mset (k : EK) (m i x : AO) : aeff call env s (.mset k m i x) = msetV s k (aev env m) (aev env i) (aev env x) := nrfl rfl
def rngV (s : St) : AV → Option (AV × St)
  | .nilm => some (.ptr s.next 0, s.push (.iter none 0 [] 0))
  | .mp id => match s.get id with
    | some (.map _ ck) => some (.ptr s.next 0, s.push (.iter (some id) ck [] ck))
    | _ => none
  | _ => none
theorem ae_rng (x : AO) : aeff call env s (.rng x) = rngV s (aev env x) := nrfl rfl
theorem ae_mkmap0 : aeff call env s (.mkmap none) = some (.mp s.next, s.push (.map [] 0)) := nrfl rfl
def entV (s : St) : AV → Option AV
  | .ptr id 0 => match s.get id with
    | some (.iter (some m) _ seen last) => match seen.getLast?, s.get m with
      | some stamp, some (.map es ck) => if ck = last then (es.find? fun e => e.2.2 == stamp).map fun e => .tup [e.1, e.2.1] else none
      | _, _ => none
    | _ => none
  | _ => none
theorem ar_ent (x : AO) : aread call env s (.ent x) = entV s (aev env x) := nrfl (by
  simp only [aread, entV]
  cases aev env x <;> rfl)
theorem lookV_push {id : Nat} (h : ltN id s) (b : AB) (z : AV) (k : EK) (ok : Bool) (i : AV) : lookV (s.push b) z k ok (.mp id) i = lookV s z k ok (.mp id) i := by
  simp only [lookV, St.get_push_old _ _ h]
theorem lookV_lowed (z : AV) (k : EK) (ok : Bool) (m i : AV) : lookV s.lowed z k ok m i = lookV s z k ok m i := by cases m <;> rfl
theorem put_push_lt {id : Nat} (h : ltN id s) (b c : AB) : (s.push b).put id c = (s.put id c).push b := by
  unfold ltN at h
  have : s.next + 1 - 1 - id = s.next - 1 - id + 1 := by omega
  simp only [St.push, St.put, this, List.set_cons_succ]
theorem msetV_push {id : Nat} (h : ltN id s) (b : AB) (k : EK) (i x : AV) : msetV (s.push b) k (.mp id) i x = (msetV s k (.mp id) i x).map fun r => (r.1, r.2.push b) := by
  simp only [msetV, St.get_push_old _ _ h, put_push_lt h]
  repeat' split
  all_goals rfl
theorem put_lowed (id : Nat) (c : AB) : s.lowed.put id c = (s.put id c).lowed := by
  simp only [St.put, St.lowed]
  congr 1
  omega
theorem msetV_lowed (k : EK) (m i x : AV) : msetV s.lowed k m i x = (msetV s k m i x).map fun r => (r.1, r.2.lowed) := by
  simp only [msetV, lowed_get, put_lowed]
  repeat' split
  all_goals rfl

/-! ### Nodes by their dots -/
def entsFrom : Nat → List Nd → List (AV × AV × Nat)
  | _, [] => []
  | k, x :: r => (.agg (Dot.av x.d), .agg (Nd.av x), k) :: entsFrom (k + 1) r
def mapN (l : List Nd) : AB := .map (entsFrom 0 l) l.length
def lookN : List Nd → Dot → Option (Nat × Nd)
  | [], _ => none
  | x :: r, d => if x.d = d then some (0, x) else (lookN r d).map fun p => (p.1 + 1, p.2)
def updN (l : List Nd) (x : Nd) : List Nd := match lookN l x.d with
  | some (j, _) => l.set j x
  | none => l ++ [x]
theorem eqK_dot (a b : Dot) : eqK (.fl [.i, .i]) (.agg (Dot.av a)) (.agg (Dot.av b)) = some (decide (b = a)) := by
  have := bin_eqd a b
  simp only [binOp, Option.map_eq_some_iff] at this
  obtain ⟨x, h1, h2⟩ := this
  injection h2 with h2
  simp only [eqV] at h1
  simp only [eqK, h1, h2]
  congr 1
  simp only [decide_eq_decide]
  exact eq_comm
theorem key_dot (d : Dot) : (AV.agg (Dot.av d)).key (.fl [.i, .i]) = true := rfl
theorem whole_nd (x : Nd) : (AV.agg (Nd.av x)).whole = true := rfl
theorem find_ents : ∀ (l : List Nd) (d : Dot) (k i : Nat), findE (.fl [.i, .i]) (.agg (Dot.av d)) (entsFrom k l) i = some ((lookN l d).map fun p => (i + p.1, .agg (Nd.av p.2)))
  | [], d, k, i => rfl
  | x :: r, d, k, i => by
    simp only [entsFrom, findE, eqK_dot, lookN]
    by_cases h : x.d = d
    · simp [h]
    · simp only [h, decide_false, if_false]
      rw [find_ents r d (k + 1) (i + 1)]
      cases lookN r d <;> simp [Nat.add_comm, Nat.add_left_comm]
theorem lookN_some : ∀ {l : List Nd} {d : Dot} {j : Nat} {x : Nd}, lookN l d = some (j, x) → l[j]? = some x ∧ x.d = d
  | [], d, j, x, h => by simp [lookN] at h
  | y :: r, d, j, x, h => by
    simp only [lookN] at h
    split at h
    · injection h with h
      obtain ⟨rfl, rfl⟩ := Prod.mk.inj h
      exact ⟨rfl, by assumption⟩
    · obtain ⟨p, hp, h⟩ := Option.map_eq_some_iff.1 h
      obtain ⟨rfl, rfl⟩ := Prod.mk.inj h
      obtain ⟨h1, h2⟩ := lookN_some (l := r) (j := p.1) (x := p.2) hp
      exact ⟨by simpa using h1, h2⟩
theorem lookN_none : ∀ {l : List Nd} {d : Dot}, lookN l d = none → ∀ x ∈ l, x.d ≠ d
  | [], d, _ => by simp
  | y :: r, d, h => by
    simp only [lookN] at h
    split at h
    · cases h
    · rename_i e
      have := lookN_none (l := r) (d := d) (by simpa using h)
      intro x hx
      rcases List.mem_cons.1 hx with rfl | hx
      · exact e
      · exact this x hx
theorem ents_len : ∀ (l : List Nd) (k : Nat), (entsFrom k l).length = l.length
  | [], _ => rfl
  | x :: r, k => by simp [entsFrom, ents_len r]
theorem ents_get : ∀ (l : List Nd) (k j : Nat), (entsFrom k l)[j]? = (l[j]?).map fun x => (.agg (Dot.av x.d), .agg (Nd.av x), k + j)
  | [], k, j => by simp [entsFrom]
  | x :: r, k, 0 => rfl
  | x :: r, k, j + 1 => by
    simp only [entsFrom, List.getElem?_cons_succ, ents_get r (k + 1) j]
    rw [show k + 1 + j = k + (j + 1) by omega]
theorem ents_append : ∀ (l m : List Nd) (k : Nat), entsFrom k (l ++ m) = entsFrom k l ++ entsFrom (k + l.length) m
  | [], m, k => by simp [entsFrom]
  | x :: r, m, k => by
    simp only [List.cons_append, entsFrom, ents_append r m (k + 1), List.length_cons]
    rw [show k + 1 + r.length = k + (r.length + 1) by omega]
theorem ents_set : ∀ (l : List Nd) (k j : Nat) (x : Nd), entsFrom k (l.set j x) = (entsFrom k l).set j (.agg (Dot.av x.d), .agg (Nd.av x), k + j)
  | [], k, j, x => by simp [entsFrom]
  | y :: r, k, 0, x => by simp [entsFrom]
  | y :: r, k, j + 1, x => by
    simp only [List.set_cons_succ, entsFrom, ents_set r (k + 1) j x]
    rw [show k + 1 + j = k + (j + 1) by omega]
theorem look_hit {l : List Nd} {d : Dot} {j : Nat} {x : Nd} {id : Nat} (hg : s.get id = some (mapN l)) (h : lookN l d = some (j, x)) (z : AV) : lookV s z (.fl [.i, .i]) true (.mp id) (.agg (Dot.av d)) = some (.tup [.agg (Nd.av x), .bool true]) := by
  simp only [lookV, key_dot, if_true, hg, mapN, find_ents, h, Option.map_some]
theorem look_miss {l : List Nd} {d : Dot} {id : Nat} (hg : s.get id = some (mapN l)) (h : lookN l d = none) (z : AV) : lookV s z (.fl [.i, .i]) true (.mp id) (.agg (Dot.av d)) = some (.tup [z, .bool false]) := by
  simp only [lookV, key_dot, if_true, hg, mapN, find_ents, h, Option.map_none]
theorem mset_map {l : List Nd} {id : Nat} (hg : s.get id = some (mapN l)) (x : Nd) : msetV s (.fl [.i, .i]) (.mp id) (.agg (Dot.av x.d)) (.agg (Nd.av x)) = some (.und, s.put id (mapN (updN l x))) := by
  simp only [msetV, key_dot, whole_nd, Bool.and_self, if_true, hg, mapN, find_ents, updN]
  cases h : lookN l x.d with
  | none =>
    simp only [Option.map_none, ents_append, entsFrom, List.length_append, List.length_singleton, Nat.zero_add]
  | some p =>
    obtain ⟨j, y⟩ := p
    obtain ⟨h1, h2⟩ := lookN_some h
    simp only [Option.map_some, Nat.zero_add, ents_get, h1, ents_set, List.length_set]
theorem rng_map {l : List Nd} {id : Nat} (hg : s.get id = some (mapN l)) : rngV s (.mp id) = some (.ptr s.next 0, s.push (.iter (some id) l.length [] l.length)) := by
  simp only [rngV, hg, mapN]
theorem next_map {l : List Nd} {id p : Nat} {seen : List Nat} {K : AV → St → Prop} (hg : s.get id = some (mapN l)) (hp : s.get p = some (.iter (some id) l.length seen l.length))
    (h1 : (∀ i, i < l.length → i ∈ seen) → K (.tup [.bool false]) s) (h2 : ∀ i x, l[i]? = some x → i ∉ seen → K (.tup [.bool true, .agg (Dot.av x.d), .agg (Nd.av x)]) (s.put p (.iter (some id) l.length (seen ++ [i]) l.length))) : anext (.ptr p 0) s K := by
  simp only [anext, hp, hg, mapN]
  have hm : ∀ e ∈ entsFrom 0 l, ∃ i x, l[i]? = some x ∧ e = (.agg (Dot.av x.d), .agg (Nd.av x), i) := by
    intro e he
    obtain ⟨i, hi⟩ := List.getElem?_of_mem he
    rw [ents_get] at hi
    obtain ⟨x, hx, rfl⟩ := Option.map_eq_some_iff.1 hi
    exact ⟨i, x, hx, by simp⟩
  refine ⟨fun e he => ?_, Nat.le_refl _, fun ha => h1 fun i hi => ?_, fun e he hs => ?_⟩
  · obtain ⟨i, x, hx, rfl⟩ := hm e he
    exact getlt hx
  · obtain ⟨x, hx⟩ := getsome hi
    have : (entsFrom 0 l)[i]? = some (.agg (Dot.av x.d), .agg (Nd.av x), 0 + i) := by rw [ents_get, hx]; rfl
    have := ha _ (List.mem_of_getElem? this)
    simpa using this
  · obtain ⟨i, x, hx, rfl⟩ := hm e he
    exact h2 i x hx hs
theorem ent_map {l : List Nd} {id p : Nat} {seen : List Nat} {i : Nat} {x : Nd} (hg : s.get id = some (mapN l)) (hp : s.get p = some (.iter (some id) l.length (seen ++ [i]) l.length)) (hx : l[i]? = some x) : entV s (.ptr p 0) = some (.tup [.agg (Dot.av x.d), .agg (Nd.av x)]) := by
  have key : ∀ (l : List Nd) (k i : Nat) (x : Nd), l[i]? = some x → (entsFrom k l).find? (fun e => e.2.2 == k + i) = some (.agg (Dot.av x.d), .agg (Nd.av x), k + i) := by
    intro l
    induction l with
    | nil => intro k i x h; simp at h
    | cons y r ih =>
      intro k i x h
      cases i with
      | zero => simp at h; subst h; simp [entsFrom]
      | succ i =>
        have e : k + (i + 1) = k + 1 + i := by omega
        rw [entsFrom, List.find?_cons_of_neg (by simp), e]
        exact ih (k + 1) i x (by simpa using h)
  have := key l 0 i x hx
  rw [Nat.zero_add] at this
  simp only [entV, hp, hg, mapN, List.getLast?_concat, if_true, this, Option.map_some]
end Go.AM
end
/-
  DERIVED: THE SHELF's CONTRACTS AT THIS DUMP, IN PLAIN WORDS (tools/lay-plain.mjs out of 'YtnojanlkminpaaaAmShelf.lean', which tools/lay-shelf.mjs wrote): THE SAME DECLARATIONS UNDER THE SAME NAMES: 'import', 'namespace', 'open', 'def', 'theorem' AND NOTHING ELSE: no command of the shelf's: FOR A HAND-IN. Each laying: the table of numbers ('.._ren') and one theorem, a field a fact of the dump's own or the kernel's comparison; each contract: ONE APPLICATION.
-/
section
namespace Go.Proofs
open Go.Shelf
def Try.sortNode_ren : Go.Shelf.Ren := ⟨fun | 6 => 56 | 15 => 68 | 14 => 67 | 28 => 78 | 29 => 79 | 20 => 70 | 21 => 71 | 22 => 72 | 23 => 73 | 24 => 74 | 25 => 75 | 26 => 76 | 27 => 77 | 46 => 80 | 47 => 81 | 48 => 82 | 49 => 83 | 50 => 84 | 57 => 85 | n => n, fun | 22 => 30 | 24 => 64 | 25 => 88 | 3 => 3 | 39 => 99 | 0 => 0 | 53 => 109 | 55 => 111 | 4 => 4 | 46 => 102 | 45 => 101 | 50 => 106 | 5 => 5 | 9 => 9 | 66 => 112 | 70 => 116 | 76 => 118 | 77 => 119 | n => n, fun | n => n⟩
theorem Try.sortNode : Go.Proofs.SlLaysF0.n6 Try.prog Try.sortNode_ren := {
  mixed := by kernel_rfl
  f6 := ⟨Try.f56.name, by decide, Try.func56.trans (congrArg some (by kernel_rfl))⟩
  f14 := ⟨Try.f67.name, by decide, Try.func67.trans (congrArg some (by kernel_rfl))⟩
  f15 := Try.func68.trans (congrArg some (by kernel_rfl))
  f20 := ⟨Try.f70.name, by decide, Try.func70.trans (congrArg some (by kernel_rfl))⟩
  f21 := ⟨Try.f71.name, by decide, Try.func71.trans (congrArg some (by kernel_rfl))⟩
  f22 := ⟨Try.f72.name, by decide, Try.func72.trans (congrArg some (by kernel_rfl))⟩
  f23 := ⟨Try.f73.name, by decide, Try.func73.trans (congrArg some (by kernel_rfl))⟩
  f24 := ⟨Try.f74.name, by decide, Try.func74.trans (congrArg some (by kernel_rfl))⟩
  f25 := ⟨Try.f75.name, by decide, Try.func75.trans (congrArg some (by kernel_rfl))⟩
  f26 := ⟨Try.f76.name, by decide, Try.func76.trans (congrArg some (by kernel_rfl))⟩
  f27 := ⟨Try.f77.name, by decide, Try.func77.trans (congrArg some (by kernel_rfl))⟩
  f28 := Try.func78.trans (congrArg some (by kernel_rfl))
  f29 := Try.func79.trans (congrArg some (by kernel_rfl))
  f46 := ⟨Try.f80.name, by decide, Try.func80.trans (congrArg some (by kernel_rfl))⟩
  f47 := Try.func81.trans (congrArg some (by kernel_rfl))
  f48 := Try.func82.trans (congrArg some (by kernel_rfl))
  f49 := ⟨Try.f83.name, by decide, Try.func83.trans (congrArg some (by kernel_rfl))⟩
  f50 := ⟨Try.f84.name, by decide, Try.func84.trans (congrArg some (by kernel_rfl))⟩
  f57 := ⟨Try.f85.name, by decide, Try.func85.trans (congrArg some (by kernel_rfl))⟩
  t0 := Try.underlying0
  a0 := Try.isAgg0
  z0 := Try.sizeOf0
  v0 := Try.zeroValue0
  t3 := Try.underlying3
  a3 := Try.isAgg3
  z3 := Try.sizeOf3
  v3 := Try.zeroValue3
  t4 := Try.underlying4
  a4 := Try.isAgg4
  z4 := Try.sizeOf4
  v4 := Try.zeroValue4
  t5 := Try.underlying5
  a5 := Try.isAgg5
  z5 := Try.sizeOf5
  v5 := Try.zeroValue5
  t9 := Try.underlying9
  a9 := Try.isAgg9
  z9 := Try.sizeOf9
  v9 := Try.zeroValue9
  t22 := Try.underlying30
  a22 := Try.isAgg30
  z22 := Try.sizeOf30
  v22 := Try.zeroValue30
  t25 := Try.underlying88
  a25 := Try.isAgg88
  z25 := Try.sizeOf88
  v25 := Try.zeroValue88
  t39 := Try.underlying99
  a39 := Try.isAgg99
  z39 := Try.sizeOf99
  v39 := Try.zeroValue99
  t45 := Try.underlying101
  a45 := Try.isAgg101
  z45 := Try.sizeOf101
  v45 := Try.zeroValue101
  t46 := Try.underlying102
  a46 := Try.isAgg102
  z46 := Try.sizeOf102
  v46 := Try.zeroValue102
  t50 := Try.underlying106
  a50 := Try.isAgg106
  z50 := Try.sizeOf106
  v50 := Try.zeroValue106
  t53 := Try.underlying109
  a53 := Try.isAgg109
  z53 := Try.sizeOf109
  v53 := Try.zeroValue109
  t55 := Try.underlying111
  a55 := Try.isAgg111
  z55 := Try.sizeOf111
  v55 := Try.zeroValue111
  t66 := Try.underlying112
  a66 := Try.isAgg112
  z66 := Try.sizeOf112
  v66 := Try.zeroValue112
  t70 := Try.underlying116
  a70 := Try.isAgg116
  z70 := Try.sizeOf116
  v70 := Try.zeroValue116
  t76 := Try.underlying118
  a76 := Try.isAgg118
  z76 := Try.sizeOf118
  v76 := Try.zeroValue118
  t77 := Try.underlying119
  a77 := Try.isAgg119
  z77 := Try.sizeOf119
  v77 := Try.zeroValue119 }
end Go.Proofs
end
/-
  The contract of slices.SortFunc at a new list of nodes, sorted by their dots. Own work of this project.
-/
section
set_option linter.unusedVariables false
set_option linter.unusedSimpArgs false
set_option maxHeartbeats 1000000
namespace Go.AM
open Go Go.Proofs
open Go.Sort (HoldsK putRowK flatK get_flatK size_flatK)

instance : Inhabited Nd := ⟨nd0⟩
def toVal : AV → Value
  | .int k n => .int k n
  | _ => undef
def nvals (x : Nd) : List Value := (Nd.av x).map toVal
theorem nvals_len (x : Nd) : (nvals x).length = 6 := rfl
theorem nvals_one (x : Nd) : ∀ v ∈ nvals x, v.oneCell' = true := by
  intro v hv
  simp only [nvals, Nd.av, List.map_cons, List.map_nil, toVal, List.mem_cons, List.not_mem_nil, or_false] at hv
  rcases hv with rfl | rfl | rfl | rfl | rfl | rfl <;> rfl
theorem nd_val {ρ : Ren} {x : Nd} {i : Nat} {v : AV} {c : Value} (h : (Nd.av x)[i]? = some v) (k : VR ρ v c) : (nvals x)[i]? = some c := by
  simp only [nvals, List.getElem?_map, h, Option.map_some, Option.some.injEq]
  have : v ∈ Nd.av x := List.mem_of_getElem? h
  simp only [Nd.av, List.mem_cons, List.not_mem_nil, or_false] at this
  rcases this with rfl | rfl | rfl | rfl | rfl | rfl <;> (simp only [VR] at k; rw [k]; rfl)
theorem nd_VR {ρ : Ren} {x : Nd} {i : Nat} {v : AV} (h : (Nd.av x)[i]? = some v) : ∃ c, (nvals x)[i]? = some c ∧ VR ρ v c := by
  refine ⟨toVal v, by simp [nvals, h], ?_⟩
  have : v ∈ Nd.av x := List.mem_of_getElem? h
  simp only [Nd.av, List.mem_cons, List.not_mem_nil, or_false] at this
  rcases this with rfl | rfl | rfl | rfl | rfl | rfl <;> simp [VR, toVal]
theorem cells_get : ∀ (l : List Nd) (t : Nat), (ndC.cells l)[t]? = (l[t / 6]?).bind fun x => (Nd.av x)[t % 6]?
  | [], t => by simp [cells_nil]
  | x :: l, t => by
    rw [cells_cons]
    have hl : (ndC.enc x).length = 6 := rfl
    by_cases h : t < 6
    · rw [List.getElem?_append_left (by omega), Nat.div_eq_of_lt h, Nat.mod_eq_of_lt h]
      rfl
    · rw [List.getElem?_append_right (by omega), hl, cells_get l (t - 6)]
      have e1 : t / 6 = (t - 6) / 6 + 1 := by omega
      have e2 : t % 6 = (t - 6) % 6 := by omega
      rw [e1, e2]
      rfl
theorem before_irr (a : Dot) : a.before a = false := by simp [Dot.before]
theorem swo : Sort.SWO (ltOf fun x y : Nd => dcmp x.d y.d) := by
  have e : ∀ x y : Nd, ltOf (fun x y : Nd => dcmp x.d y.d) x y = x.d.before y.d := by
    intro x y
    unfold ltOf
    rcases dcmp_cases x.d y.d with ⟨h, h1, _⟩ | ⟨h, h1, _⟩ | ⟨h, h1, _⟩ <;> simp only [h, h1] <;> decide
  refine ⟨fun x => by rw [e]; exact before_irr _, fun x y z => ?_, fun x y z => ?_⟩
  · rw [e, e, e]
    obtain ⟨⟨_, _⟩, _, _, _⟩ := x
    obtain ⟨⟨_, _⟩, _, _, _⟩ := y
    obtain ⟨⟨_, _⟩, _, _, _⟩ := z
    simp only [Dot.before, Bool.or_eq_true, Bool.and_eq_true, decide_eq_true_eq]
    omega
  · rw [e, e, e]
    obtain ⟨⟨_, _⟩, _, _, _⟩ := x
    obtain ⟨⟨_, _⟩, _, _, _⟩ := y
    obtain ⟨⟨_, _⟩, _, _, _⟩ := z
    simp only [Dot.before, Bool.or_eq_false_iff, Bool.and_eq_false_iff, decide_eq_false_iff_not]
    omega
theorem clean_grow {W W' : World} (h : Clean W W') : ∃ q os, W' = Sort.grow (W.drewN q) os := by
  refine ⟨W'.drawn - W.drawn, W'.heap.extract W.heap.size W'.heap.size, ?_⟩
  have hd := h.drawn
  have hh : W'.heap = W.heap ++ W'.heap.extract W.heap.size W'.heap.size := by
    have hs := h.size
    apply Array.ext_getElem?
    intro i
    rw [Array.getElem?_append]
    split
    · exact h.block i (by assumption)
    · rw [Array.getElem?_extract]
      by_cases hi : i < W'.heap.size
      · rw [if_pos (by omega)]
        congr 1
        omega
      · rw [if_neg (by omega), Array.getElem?_eq_none (by omega)]
  have h1 := h.os
  have h2 := h.tape
  have h3 := h.output
  cases W'
  cases W
  simp only [Sort.grow, World.drewN] at *
  subst h1; subst h2; subst h3
  congr 1
  omega
theorem cmp_lays (w : World) (blk off size : Nat) : CmpLays Try.prog 57 #[] nvals 6 (fun x y : Nd => dcmp x.d y.d) blk off size w := by
  intro m os dk hdk x y
  obtain ⟨_, _, h⟩ := s_nodeCmp [.agg (Nd.av x), .agg (Nd.av y)] St.empty (.int .i64 (dcmp x.d y.d)) St.empty rfl
  have hv : ∀ x : Nd, VRs (fun _ => none) (Nd.av x) (nvals x) := fun x => by
    simp [Nd.av, nvals, toVal, VRs, VR]
  have := h (fun _ => none) (sortWorldK nvals 6 w blk off m dk os) [.agg (nvals x).toArray, .agg (nvals y).toArray] (fun _ _ => rfl) (R_empty _) (by
    rw [VRs_cons, VRs_cons]
    exact ⟨by simp only [VR]; exact ⟨_, rfl, hv x⟩, by simp only [VR]; exact ⟨_, rfl, hv y⟩, VRs_nil⟩)
  refine Calls.mono (by simpa using this) fun e w' hp => ?_
  obtain ⟨ρ', v, rfl, hv, hst, _⟩ := hp
  simp only [VR] at hv
  subst hv
  exact ⟨rfl, clean_grow (hst.clean (by simp [St.empty]))⟩
/-! ### Sorting nodes -/
def insN (x : Nd) : List Nd → List Nd
  | [] => [x]
  | y :: r => if x.d.before y.d = true then x :: y :: r else y :: insN x r
def sortN : List Nd → List Nd
  | [] => []
  | x :: r => insN x (sortN r)
def ltP (x y : Nd) : Prop := x.d.before y.d = true
theorem insN_perm (x : Nd) : ∀ l, (insN x l).Perm (x :: l)
  | [] => .refl _
  | y :: r => by
    unfold insN
    split
    · exact .refl _
    · exact ((insN_perm x r).cons y).trans (.swap x y r)
theorem sortN_perm : ∀ l, (sortN l).Perm l
  | [] => .refl _
  | x :: r => (insN_perm x _).trans ((sortN_perm r).cons x)
theorem sortN_len (l : List Nd) : (sortN l).length = l.length := (sortN_perm l).length_eq
theorem ltP_trans {x y z : Nd} (h : ltP x y) (k : ltP y z) : ltP x z := by
  unfold ltP at *
  obtain ⟨⟨_, _⟩, _, _, _⟩ := x
  obtain ⟨⟨_, _⟩, _, _, _⟩ := y
  obtain ⟨⟨_, _⟩, _, _, _⟩ := z
  simp only [Dot.before, Bool.or_eq_true, Bool.and_eq_true, decide_eq_true_eq] at *
  omega
theorem ltP_asymm {x y : Nd} (h : ltP x y) (k : ltP y x) : False := by
  have := ltP_trans h k
  unfold ltP at this
  rw [before_irr] at this
  cases this
theorem ltP_tri (x y : Nd) (h : x.d ≠ y.d) : ltP x y ∨ ltP y x := by
  unfold ltP
  rcases dcmp_cases x.d y.d with ⟨_, h1, _⟩ | ⟨_, _, h1⟩ | ⟨_, _, _, h1⟩
  · exact .inl h1
  · exact .inr h1
  · exact absurd h1 h
theorem insN_sorted (x : Nd) : ∀ l : List Nd, l.Pairwise ltP → (∀ y ∈ l, x.d ≠ y.d) → (insN x l).Pairwise ltP
  | [], _, _ => by simp [insN]
  | y :: r, h, hx => by
    unfold insN
    rw [List.pairwise_cons] at h
    split
    · rename_i hb
      rw [List.pairwise_cons, List.pairwise_cons]
      refine ⟨fun z hz => ?_, h⟩
      rcases List.mem_cons.1 hz with rfl | hz
      · exact hb
      · exact ltP_trans hb (h.1 z hz)
    · rename_i hb
      have hyx : ltP y x := (ltP_tri x y (hx y (by simp))).resolve_left hb
      rw [List.pairwise_cons]
      refine ⟨fun z hz => ?_, insN_sorted x r h.2 fun y hy => hx y (by simp [hy])⟩
      rcases List.mem_cons.1 ((insN_perm x r).mem_iff.1 hz) with rfl | hz
      · exact hyx
      · exact h.1 z hz
theorem sortN_sorted : ∀ l : List Nd, (l.map Nd.d).Nodup → (sortN l).Pairwise ltP
  | [], _ => by simp [sortN]
  | x :: r, h => by
    simp only [List.map_cons, List.nodup_cons] at h
    refine insN_sorted x _ (sortN_sorted r h.2) fun y hy e => h.1 ?_
    rw [e]
    exact List.mem_map_of_mem ((sortN_perm r).mem_iff.1 hy)
theorem sorted_unique : ∀ (l m : List Nd), l.Perm m → l.Pairwise ltP → m.Pairwise ltP → l = m
  | [], m, h, _, _ => (List.nil_perm.1 h).symm
  | x :: l, [], h, _, _ => absurd h.length_eq (by simp)
  | x :: l, y :: m, h, h1, h2 => by
    rw [List.pairwise_cons] at h1 h2
    have e : x = y := by
      by_cases e : x = y
      · exact e
      · have hx : x ∈ m := by
          rcases List.mem_cons.1 (h.mem_iff.1 (List.mem_cons_self ..)) with q | q
          · exact absurd q e
          · exact q
        have hy : y ∈ l := by
          rcases List.mem_cons.1 (h.mem_iff.2 (List.mem_cons_self ..)) with q | q
          · exact absurd q.symm e
          · exact q
        exact (ltP_asymm (h1.1 y hy) (h2.1 x hx)).elim
    subst e
    rw [sorted_unique l m h.cons_inv h1.2 h2.2]
def cSort (g : Nat) : Con := fun xs s => match xs with
  | [.nils, .fn g' []] => if g' = g then some (.tup [], s.lowed) else none
  | [.sl j 0 n none 6, .fn g' []] => if g' = g then match s.get j with
      | some (.row cs true) => match decL ndC n cs with
        | some l => if cs.length = n * 6 ∧ (l.map Nd.d).Nodup ∧ 0 < n ∧ n ≤ lim then some (.tup [], s.put j (.row (ndC.cells (sortN l)) true)) else none
        | none => none
      | _ => none
    else none
  | _ => none
theorem holds_of {ρ : Ren} {L : Loc} {w : World} {l : List Nd} (h : BlkOk ρ L w (.row (ndC.cells l) true)) : HoldsK nvals 6 w L.b L.o l.toArray := by
  simp only [BlkOk] at h
  obtain ⟨cs, e, fr, h1, h2, h3, h4, h5, _⟩ := h
  rw [cells_len] at h3
  intro j hj
  have hj : j < l.length * 6 := by simpa using hj
  obtain ⟨x, hx⟩ := getsome (l := l) (i := j / 6) (by omega)
  have h6 : (Nd.av x).length = 6 := rfl
  obtain ⟨v, hv⟩ : ∃ v, (Nd.av x)[j % 6]? = some v := ⟨(Nd.av x)[j % 6]'(by omega), by simp⟩
  obtain ⟨c, hc, hr⟩ := h4 j v (by rw [cells_get, hx]; exact hv)
  have hn := nd_val hv hr
  have e1 : (flatK nvals 6 l.toArray)[j]! = c := by
    rw [get_flatK _ _ _ _ (by simpa using hj)]
    have : l.toArray[j / 6]! = x := by simp [hx]
    rw [this]
    simp [hn]
  have h66 : ndC.sz = 6 := rfl
  rw [h66] at h3
  have hfr := h5 trivial (L.o + j) (by omega)
  constructor
  · simp only [World.cell?, h1, id, e1]
    simpa using hc
  · simp only [World.frozen?, h1]
    exact hfr
theorem blk_after {ρ : Ren} {L : Loc} {w : World} {l m : List Nd} (h : BlkOk ρ L w (.row (ndC.cells l) true)) (hm : m.length = l.length) (n : Nat) : BlkOk ρ L (putRowK nvals 6 (Sort.ahead w n) L.b L.o m.toArray) (.row (ndC.cells m) true) := by
  simp only [BlkOk] at h ⊢
  obtain ⟨cs, e, fr, h1, h2, h3, h4, h5, _⟩ := h
  rw [cells_len] at h3
  have h6 : ndC.sz = 6 := rfl
  refine ⟨Sort.putCells id L.o (flatK nvals 6 m.toArray) cs, e, fr, ?_, by simp [Sort.putCells, h2], by rw [cells_len, hm]; exact h3, fun i v hv => ?_, h5, cells_one' ndC m⟩
  · simp only [putRowK, Sort.putRow, Sort.mapBlock, Sort.ahead]
    rw [Array.getElem?_modify]
    simp [h1, Sort.onCells]
  · have hi := (List.getElem?_eq_some_iff.1 hv).1
    rw [cells_len] at hi
    rw [cells_get] at hv
    rw [h6] at hi
    obtain ⟨x, hx⟩ := getsome (l := m) (i := i / 6) (by omega)
    rw [hx] at hv
    obtain ⟨c, hc, hr⟩ := nd_VR (ρ := ρ) hv
    refine ⟨c, ?_, hr⟩
    have e1 : (flatK nvals 6 m.toArray)[i]! = c := by
      rw [get_flatK _ _ _ _ (by simp; omega)]
      have : m.toArray[i / 6]! = x := by simp [hx]
      rw [this]
      simp [hc]
    simp only [Sort.putCells, Array.getElem?_mapIdx]
    have hlt : L.o + i < cs.size := by
      rw [h6, ← hm] at h3
      rw [h2]
      omega
    rw [Array.getElem?_eq_getElem hlt]
    simp only [Option.map_some, size_flatK, List.size_toArray]
    rw [if_pos (by omega)]
    simp [e1]
theorem s_sort : SoundAt Try.prog 56 (cSort 57) := by
  intro xs s r s' h
  have hk : callable Try.prog 56 = true := k56
  have hf : Try.sortNode_ren.f 6 = 56 := rfl
  unfold cSort at h
  split at h
  · split at h
    · rename_i e
      subst e
      injection h with h
      obtain ⟨rfl, rfl⟩ := Prod.mk.inj h
      refine ⟨hk, gk_lowed s, fun ρ w cargs hfree hR hargs => ?_⟩
      obtain ⟨a1, r1, rfl, v1, w1⟩ : ∃ c r, cargs = c :: r ∧ VR ρ .nils c ∧ VRs ρ [.fn 57 []] r := by simpa only [VRs] using hargs
      obtain ⟨a2, r2, rfl, v2, w2⟩ : ∃ c r, r1 = c :: r ∧ VR ρ (.fn 57 []) c ∧ VRs ρ [] r := by simpa only [VRs] using w1
      simp only [VRs] at w2
      subst w2
      simp only [VR] at v1
      subst v1
      refine (AnyF.slices_SortFunc_none Try.sortNode none 0 a2 w).mono fun e w' hp => ?_
      obtain ⟨rfl, rfl⟩ := hp
      have hst := Step.refl s ρ w'
      exact ⟨ρ, _, rfl, by simp [VR, VRs], ⟨Nat.le_refl _, Nat.min_le_left _ _, hst.ren, hst.size, rfl, rfl, rfl, hst.drawn, fun b hb H => rfl, hst.old, fun id L blk e1 _ e3 _ => absurd (St.get_lt e3) (by rw [lowed_next]; omega), fun _ _ _ => rfl⟩, ⟨hR.bound, hR.blk, hR.inj⟩⟩
    · cases h
  · rename_i j n g'
    split at h
    · rename_i e
      subst e
      split at h
      · rename_i cs hg
        split at h
        · rename_i l hd
          split at h
          · rename_i hc
            obtain ⟨hc1, hnd, hpos, hlim⟩ := hc
            injection h with h
            obtain ⟨rfl, rfl⟩ := Prod.mk.inj h
            obtain ⟨d1, d2, d3⟩ := decL_some hd
            have hcs : cs = ndC.cells l := by rw [← d3, show n * ndC.sz = cs.length from hc1.symm]; simp
            subst hcs
            refine ⟨hk, ⟨grow_put _ hg, keeps_put _ hg⟩, fun ρ w cargs hfree hR hargs => ?_⟩
            obtain ⟨a1, r1, rfl, v1, w1⟩ : ∃ c r, cargs = c :: r ∧ VR ρ (.sl j 0 n none 6) c ∧ VRs ρ [.fn 57 []] r := by simpa only [VRs] using hargs
            obtain ⟨a2, r2, rfl, v2, w2⟩ : ∃ c r, r1 = c :: r ∧ VR ρ (.fn 57 []) c ∧ VRs ρ [] r := by simpa only [VRs] using w1
            simp only [VRs] at w2
            subst w2
            simp only [VR] at v1 v2
            obtain ⟨L, a, c, hL, rfl, hle, _, hca⟩ := v1
            obtain ⟨cb, rfl, hcb⟩ := v2
            simp only [VRs] at hcb
            subst hcb
            rcases hca with rfl | ⟨rfl, hcap⟩
            · omega
            have hb := hR.blk j _ L hg hL
            have hH := holds_of hb
            have hlt := hR.bound j L hL
            have hsz : l.toArray.size = n := by simpa using d1
            have main := AnyQ.slices_SortFunc Try.sortNode 6 Try.isAgg64 Try.sizeOf64 nvals nvals_len nvals_one (fun x y : Nd => dcmp x.d y.d) swo 57 #[] L.b L.o c l.toArray w (enters_of Try.func57 (by kernel_rfl) rfl) (cmp_lays w L.b L.o l.toArray.size) hH hlt (by rw [hsz]; unfold lim at hlim; omega)
            rw [hsz] at main
            have main : Calls Try.prog 56 _ w _ := main
            refine main.mono fun e w' hp => ?_
            obtain ⟨rfl, d', nn, os, ⟨p1, _, p2⟩, hsrt, rfl⟩ := hp
            have hsz' : d'.size = n := by rw [p1, hsz]
            have hd' : d'.toList = sortN l := by
              have hp : d'.toList.Perm l := by
                have e1 : d'.extract 0 n = d' := by rw [← hsz']; simp
                have e2 : l.toArray.extract 0 n = l.toArray := by rw [← hsz]; simp
                rw [e1, e2] at p2
                exact p2
              refine sorted_unique _ _ (hp.trans (sortN_perm l).symm) ?_ (sortN_sorted l hnd)
              rw [List.pairwise_iff_getElem]
              intro i j hi hj hij
              have h1 := hsrt i j (Nat.zero_le _) hij (by simpa [hsz'] using hj)
              have hnd' : (d'.toList.map Nd.d).Nodup := (hp.map Nd.d).nodup_iff.2 hnd
              have hne : d'.toList[i].d ≠ d'.toList[j].d := by
                have := List.pairwise_iff_getElem.1 hnd' i j (by simpa using hi) (by simpa using hj) hij
                simpa using this
              have e1 : d'[i]! = d'.toList[i] := by
                simp at hi
                simp [hi]
              have e2 : d'[j]! = d'.toList[j] := by
                simp at hj
                simp [hj]
              rw [e1, e2] at h1
              rcases ltP_tri _ _ hne with q | q
              · exact q
              · unfold ltP at q
                unfold ltOf at h1
                rcases dcmp_cases d'.toList[j].d d'.toList[i].d with ⟨hh, _, _⟩ | ⟨hh, hh2, _⟩ | ⟨hh, hh2, _⟩
                · simp only [hh] at h1; exact absurd h1 (by decide)
                · rw [hh2] at q; cases q
                · rw [hh2] at q; cases q
            have hd'' : d' = (sortN l).toArray := by rw [← hd']
            subst hd''
            obtain ⟨hR1, hS1⟩ := R.put (b := .row (ndC.cells (sortN l)) true) hR hg rfl hL (blk_after hb (sortN_len l) nn) (by simp [putRowK, Sort.putRow, Sort.mapBlock, Sort.ahead]) rfl rfl rfl (by show w.drawn ≤ w.drawn + nn; omega) (by
              intro k hk'
              simp only [putRowK, Sort.putRow, Sort.mapBlock, Sort.ahead]
              rw [Array.getElem?_modify, if_neg (Ne.symm hk')])
            have hcl : Clean (putRowK nvals 6 (Sort.ahead w nn) L.b L.o (sortN l).toArray) (sortWorldK nvals 6 w L.b L.o nn (sortN l).toArray os) := by
              refine ⟨by simp [sortWorldK, Sort.grow], rfl, rfl, rfl, Nat.le_refl _, fun b hb => ?_⟩
              simp only [sortWorldK, Sort.grow]
              rw [Array.getElem?_append_left hb]
            exact ⟨ρ, _, rfl, by simp [VR, VRs], hS1.trans (hcl.step _ ρ), hR1.clean hcl⟩
          · cases h
        · cases h
      · cases h
    · cases h
  · cases h
end Go.AM
end
/-
  store.Of. Own work of this project; in part printed by a program of it.
-/
section
set_option linter.unusedVariables false
set_option linter.unusedSimpArgs false
set_option maxRecDepth 100000
set_option maxHeartbeats 8000000
namespace Go.AM
open Go Go.Proofs

variable {s t : St}
theorem lt_put {n id : Nat} {t : St} (h : ltN n t) (c : AB) : ltN n (t.put id c) = True := eq_true h
theorem same_put {n id : Nat} {t : St} (h : sameN n t) (c : AB) : sameN n (t.put id c) = True := eq_true h
theorem gt_push {id : Nat} (h : ltN id t) (b : AB) : (t.push b).get id = t.get id := St.get_push_old _ _ h
theorem sto_over {n : Nat} {s : St} (h : sameN n s) (x y : Nd) : sto (s.push (.row (Nd.av x) true)) 6 (.ptr n 0) (.agg (Nd.av y)) = some (.und, s.lowed.push (.row (Nd.av y) true)) := by
  unfold sameN at h
  subst h
  simp only [sto, St.get_push_new, push_put]
  rfl
theorem sto_lowed (n : Nat) (a x : AV) : sto s.lowed n a x = (sto s n a x).map fun r => (r.1, r.2.lowed) := by
  simp only [sto, lowed_get, put_lowed]
  repeat' split
  all_goals rfl
theorem cs_dead (p : Prop) [Decidable p] (A B : Prop) : cstep (.bool (!decide p)) A B = cstep (.bool (decide p)) B A := cs_not _ _ _
/-- What is there of the nodes so far: merged, and alive. -/
def ofStep (M A : List Nd) (n : Nd) : Option (List Nd × List Nd) :=
  if (match lookN A n.d with
    | some (_, x) => x.clash n
    | none => false) = true then none
  else match lookN M n.d with
    | some (_, old) => if old.clash n = true then none else some (updN M (old.merge n), if n.x = 0 then A else updN A n)
    | none => some (updN M n, if n.x = 0 then A else updN A n)
def ofFold : List Nd → List Nd → List Nd → Option (List Nd)
  | [], M, _ => some M
  | n :: r, M, A => match ofStep M A n with
    | some (M', A') => ofFold r M' A'
    | none => none
def gOf (l : List Nd) : Option (List Nd × Option AV) :=
  if l.all Nd.valid = true then match ofFold l [] [] with
    | some M => some (sortN M, some (.int .i64 0))
    | none => some ([], some (.int .i64 15))
  else some ([], some (.int .i64 2))
theorem gOf_plain {a : List Nd} {l : List Nd} {e : Option AV} (h : gOf a = some (l, e)) : ∀ x, e = some x → x.plain = true := by
  unfold gOf at h
  repeat' split at h
  all_goals
    injection h with h
    obtain ⟨_, rfl⟩ := Prod.mk.inj h
    intro x hx
    injection hx with hx
    subst hx
    rfl
theorem updN_mem {l : List Nd} {x y : Nd} (h : y ∈ updN l x) : y = x ∨ y ∈ l := by
  unfold updN at h
  split at h
  · rcases List.mem_or_eq_of_mem_set h with h | h
    · exact .inr h
    · exact .inl h
  · rcases List.mem_append.1 h with h | h
    · exact .inr h
    · exact .inl (by simpa using h)
theorem updN_len (l : List Nd) (x : Nd) : (updN l x).length ≤ l.length + 1 := by
  unfold updN
  split <;> simp
theorem updN_nodup {l : List Nd} {x : Nd} (h : (l.map Nd.d).Nodup) : ((updN l x).map Nd.d).Nodup := by
  unfold updN
  split
  · rename_i j y hj
    obtain ⟨h1, h2⟩ := lookN_some hj
    rw [List.map_set, ← h2]
    have : (l.map Nd.d).set j y.d = l.map Nd.d := by
      apply List.ext_getElem?
      intro k
      rw [List.getElem?_set]
      split
      · rename_i e
        subst e
        split
        · simp [h1]
        · rename_i hk
          have := getlt h1
          simp at hk
          omega
      · rfl
    rw [this]
    exact h
  · rename_i hj
    rw [List.map_append, List.nodup_append]
    refine ⟨h, by simp, ?_⟩
    intro a ha b hb e
    simp at hb
    subst hb
    subst e
    obtain ⟨y, hy, e⟩ := List.mem_map.1 ha
    exact lookN_none hj y hy e
theorem merge_valid {a b : Nd} (ha : a.valid = true) (hb : b.valid = true) : (a.merge b).valid = true := by
  unfold Nd.merge
  split <;> assumption
theorem merge_d {a b : Nd} (h : a.d = b.d) : (a.merge b).d = b.d := by
  unfold Nd.merge
  split <;> simp [h]
theorem aappend_frame {t t' : St} {sz bytes k : Nat} {v v' : AV} {new : List AV} (h : aappend t sz bytes v new k = some (v', t')) {id : Nat} {b : AB} (hne : ∀ o n c z, v ≠ .sl id o n c z) (hg : t.get id = some b) : t'.get id = some b := by
  unfold aappend at h
  split at h
  · split at h
    · injection h with h; obtain ⟨_, rfl⟩ := Prod.mk.inj h; exact hg
    · split at h
      · injection h with h; obtain ⟨_, rfl⟩ := Prod.mk.inj h; exact get_push_some _ hg
      · cases h
  · rename_i id' off len cap z
    have hid : id ≠ id' := fun e => hne off len cap z (by rw [e])
    split at h
    · split at h
      · rename_i cs own hg'
        have hlt := St.get_lt hg'
        split at h
        · injection h with h; obtain ⟨_, rfl⟩ := Prod.mk.inj h; exact hg
        · split at h
          · split at h
            · split at h
              · split at h
                · injection h with h; obtain ⟨_, rfl⟩ := Prod.mk.inj h
                  rw [St.get_put_ne _ _ hlt hid]; exact hg
                · cases h
              · injection h with h; obtain ⟨_, rfl⟩ := Prod.mk.inj h; exact get_push_some _ hg
            · split at h
              · injection h with h; obtain ⟨_, rfl⟩ := Prod.mk.inj h
                refine get_push_some _ ?_
                rw [St.get_put_ne _ _ hlt hid]; exact hg
              · cases h
          · cases h
      · cases h
    · cases h
  · cases h
theorem appV_frame {t t' : St} {sz bytes : Nat} {v v' x : AV} (h : appV t sz bytes v x = some (v', t')) {id : Nat} {b : AB} (hne : ∀ o n c z, v ≠ .sl id o n c z) (hg : t.get id = some b) : t'.get id = some b := by
  unfold appV at h
  split at h
  · exact aappend_frame h hne hg
  · cases h
theorem pigeon : ∀ (n : Nat) (l : List Nat), l.Nodup → (∀ x ∈ l, x < n) → l.length ≤ n
  | 0, l, _, h => by
    cases l with
    | nil => simp
    | cons x r => exact absurd (h x (by simp)) (by omega)
  | n + 1, l, hd, h => by
    by_cases hn : n ∈ l
    · have := pigeon n (l.erase n) (hd.erase n) fun x hx => by
        have := (hd.mem_erase_iff.1 hx)
        have := h x this.2
        omega
      rw [List.length_erase_of_mem hn] at this
      omega
    · have := pigeon n l hd fun x hx => by
        have := h x hx
        have : x ≠ n := fun e => hn (e ▸ hx)
        omega
      omega
theorem room_left {seen : List Nat} {n i : Nat} (hd : seen.Nodup) (hl : ∀ x ∈ seen, x < n) (hi : i < n) (hn : i ∉ seen) : seen.length < n := by
  have := pigeon n (i :: seen) (List.nodup_cons.2 ⟨hn, hd⟩) fun x hx => by
    rcases List.mem_cons.1 hx with rfl | hx
    · exact hi
    · exact hl x hx
  simp at this
  omega
theorem range_get (M : List Nd) : (List.range M.length).map (fun i => M[i]?) = M.map some := by
  apply List.ext_getElem?
  intro i
  rw [List.getElem?_map, List.getElem?_map]
  by_cases h : i < M.length
  · rw [List.getElem?_range h]
    simp [h]
  · rw [List.getElem?_eq_none (by simpa using h), List.getElem?_eq_none (by omega)]
    rfl
theorem seen_perm {M acc : List Nd} {seen : List Nat} (h1 : seen.Nodup) (h2 : ∀ i ∈ seen, i < M.length) (h3 : acc.map some = seen.map fun i => M[i]?) (h4 : ∀ i, i < M.length → i ∈ seen) : acc.Perm M := by
  have hp : seen.Perm (List.range M.length) := (List.perm_ext_iff_of_nodup h1 List.nodup_range).2 fun i => by
    rw [List.mem_range]
    exact ⟨h2 i, h4 i⟩
  have h5 := hp.map fun i => M[i]?
  rw [← h3, range_get] at h5
  have h6 := h5.filterMap (fun x => x)
  have e : ∀ l : List Nd, (l.map some).filterMap (fun x => x) = l := by
    intro l
    induction l with
    | nil => rfl
    | cons x r ih => simp [ih]
  rwa [e, e] at h6
theorem sort_own {v : AV} {acc : List Nd} (hK : Keep s t) (hO : Own ndC s t v acc) (hnd : (acc.map Nd.d).Nodup) (hl : acc.length ≤ lim) (g : Nat) : ∃ t3, acall (cSort g) false [v, .fn g []] t = some (.tup [], t3) ∧ Keep s t3 ∧ Own ndC s t3 v (sortN acc) := by
  rcases hO with ⟨rfl, rfl⟩ | ⟨j, rfl, h0, h1, h⟩
  · exact ⟨t, acall_rol (by simp [cSort]) rfl, hK, .nil _ _ _⟩
  · have hpos : 0 < acc.length := List.length_pos_iff.2 h0
    have hd : decL ndC acc.length (ndC.cells acc) = some acc := by
      have := decL_cells ndC acc []
      rwa [List.append_nil] at this
    have h6 : ndC.sz = 6 := rfl
    have hlen : (ndC.cells acc).length = acc.length * 6 := by rw [cells_len, h6]
    have hc : cSort g [.sl j 0 acc.length none ndC.sz, .fn g []] { heap := t.heap, next := t.next, low := t.next } = some (.tup [], ({ heap := t.heap, next := t.next, low := t.next } : St).put j (.row (ndC.cells (sortN acc)) true)) := by
      have hg : ({ heap := t.heap, next := t.next, low := t.next } : St).get j = some (.row (ndC.cells acc) true) := h
      rw [h6]
      simp only [cSort, if_true, hg, hd, hlen, hnd, hpos, hl, and_self]
    have hlt := St.get_lt h
    refine ⟨t.put j (.row (ndC.cells (sortN acc)) true), ?_, hK.put _ h1 hlt, .inr ⟨j, by rw [sortN_len], ?_, h1, St.get_put_same h⟩⟩
    · simp only [acall, hc]
      have e : (AV.tup []).ground = true := rfl
      have e3 : decide (t.next ≤ (({ heap := t.heap, next := t.next, low := t.next } : St).put j (.row (ndC.cells (sortN acc)) true)).low) = false := decide_eq_false (by simp only [St.low_put]; omega)
      rw [e, e3]
      simp only [Bool.and_false, Bool.false_eq_true, if_false, St.put]
      congr 3
      omega
    · intro e
      have := sortN_len acc
      rw [e] at this
      simp at this
      omega
theorem s_Of : SoundAt Try.prog 40 (conF ndC (pL ndC gOf)) :=
  con_fresh (tb_sound (l := [(54, conLfn fHasBad 55), (39, conNN fMerge), (53, conN fDead), (56, cSort 57)]) (by simpa using ⟨s_HasBad, s_Merge, s_Dead, s_sort⟩)) mixed Try.func40 k40 c40 fun args s r ee h => by
    obtain ⟨v, l, rfl, hr, hl, hp⟩ := pL_some h
    refine ⟨gOf_plain hp, by simp [a40], fun env hlen ha => ?_⟩
    have h0 : E env 0 = _ := ha 0 _ rfl
    have hlen : elen env = _ := hlen
    simp only [a40] at hlen
    unfold a40
    try dsimp only [oO, oG]
    have hL := lenV_read hr
    have q1 := q_HasBad false hr hl
    unfold gOf at hp
    cases hv : l.all Nd.valid
    · rw [hv] at hp q1
      simp only [Bool.false_eq_true, if_false] at hp
      injection hp with hp
      obtain ⟨rfl, rfl⟩ := Prod.mk.inj hp
      simp (config := {contextual := true, maxDischargeDepth := 12}) only [tb, q1, h0, hlen, ↓bD, bU, forall_const, List.all_cons, List.all_nil, Option.map_some, List.map_cons, List.map_nil, ne_eq, implies_true, isNx, cs_dec, cs_not, cs_and, cs_or, cs_valid, eq_self, ↓wp_cond, ↓wp_loop, ↓reduceIte, reduceCtorEq, Nat.reduceEqDiff, Nat.reduceLT, Nat.reduceAdd, Nat.reduceMul, Int.ofNat_lt, Int.ofNat_le, exists_const, ae_app, ap_slc, Option.map_none, mkR_none, mkR_some, ar_look, ae_mset, ae_rng, ae_mkmap0, ar_ent, lookV_push, lookV_lowed, msetV_push, msetV_lowed, lt_put, same_put, sto_over, sto_lowed, cs_dead, Option.map_some]
      exact ⟨_, rfl, .nil _ _ _⟩
    · rw [hv] at hp q1
      simp only [if_true] at hp
      have hA : ∀ x ∈ l, x.valid = true := by simpa using hv
      simp (config := {contextual := true, maxDischargeDepth := 12}) only [tb, q1, h0, hlen, hL, ↓bD, bU, forall_const, List.all_cons, List.all_nil, Option.map_some, List.map_cons, List.map_nil, ne_eq, implies_true, isNx, cs_dec, cs_not, cs_and, cs_or, cs_valid, eq_self, ↓wp_cond, ↓wp_loop, ↓reduceIte, reduceCtorEq, Nat.reduceEqDiff, Nat.reduceLT, Nat.reduceAdd, Nat.reduceMul, Int.ofNat_lt, Int.ofNat_le, exists_const, ae_app, ap_slc, Option.map_none, mkR_none, mkR_some, ar_look, ae_mset, ae_rng, ae_mkmap0, ar_ent, lookV_push, lookV_lowed, msetV_push, msetV_lowed, lt_put, same_put, sto_over, sto_lowed, cs_dead, Option.map_some]
      obtain ⟨mM, hmM⟩ : ∃ mM, mM = s.next := ⟨_, rfl⟩
      obtain ⟨mA, hmA⟩ : ∃ mA, mA = (s.push (.map [] 0)).next := ⟨_, rfl⟩
      obtain ⟨I, hI⟩ : ∃ I : Nat → Env → St → Prop, ∀ n e t, I n e t = (Keep s t ∧ ∃ (i : Nat) (M A : List Nd), n + i = l.length ∧ elen e = 89 ∧ E e 23 = v ∧ E e 24 = .int .i64 (l.length : Int) ∧ E e 25 = .int .i64 (i : Int) ∧ E e 4 = .mp mM ∧ E e 5 = .mp mA ∧ t.get mM = some (mapN M) ∧ t.get mA = some (mapN A) ∧ ofFold l [] [] = ofFold (l.drop i) M A ∧ (∀ x ∈ M, x.valid = true) ∧ (∀ x ∈ A, x.valid = true) ∧ M.length ≤ i ∧ (M.map Nd.d).Nodup) := ⟨fun n e t => (Keep s t ∧ ∃ (i : Nat) (M A : List Nd), n + i = l.length ∧ elen e = 89 ∧ E e 23 = v ∧ E e 24 = .int .i64 (l.length : Int) ∧ E e 25 = .int .i64 (i : Int) ∧ E e 4 = .mp mM ∧ E e 5 = .mp mA ∧ t.get mM = some (mapN M) ∧ t.get mA = some (mapN A) ∧ ofFold l [] [] = ofFold (l.drop i) M A ∧ (∀ x ∈ M, x.valid = true) ∧ (∀ x ∈ A, x.valid = true) ∧ M.length ≤ i ∧ (M.map Nd.d).Nodup), fun _ _ _ => rfl⟩
      refine lwp_inv I (n := l.length) ?_ ?_
      · rw [hI]
        refine ⟨((Keep.refl s).push _).push _, 0, [], [], by omega, by simp only [E_pne, E_psame, elen_put, Nat.reduceEqDiff, ne_eq, not_false_eq_true, Nat.reduceLT, hlen], by simp only [E_pne, E_psame, elen_put, Nat.reduceEqDiff, ne_eq, not_false_eq_true, Nat.reduceLT, hlen], by simp only [E_pne, E_psame, elen_put, Nat.reduceEqDiff, ne_eq, not_false_eq_true, Nat.reduceLT, hlen], by simp only [E_pne, E_psame, elen_put, Nat.reduceEqDiff, ne_eq, not_false_eq_true, Nat.reduceLT, hlen]; rfl, by rw [hmM]; simp only [E_pne, E_psame, elen_put, Nat.reduceEqDiff, ne_eq, not_false_eq_true, Nat.reduceLT, hlen], by rw [hmA]; simp only [E_pne, E_psame, elen_put, Nat.reduceEqDiff, ne_eq, not_false_eq_true, Nat.reduceLT, hlen], ?_, ?_, rfl, by simp, by simp, by simp, by simp⟩
        · rw [hmM]
          rw [St.get_push_old _ _ (Nat.lt_succ_self _), St.get_push_new]
          rfl
        · rw [hmA, St.get_push_new]
          rfl
      intro n e t hi
      rw [hI] at hi
      obtain ⟨hK, i, M, A, hn, he, e23, e24, e25, e4, e5, gM, gA, hfold, hvM, hvA, hMi, hnd⟩ := hi
      have lM := lt_of_get gM
      have lA := lt_of_get gA
      have hmA' : s.next ≤ mA := by rw [hmA]; simp
      have hmM' : s.next ≤ mM := by rw [hmM]; exact Nat.le_refl _
      have hne : mM ≠ mA := by rw [hmM, hmA]; simp
      by_cases hlt : i < l.length
      · obtain ⟨x, hx⟩ := getsome hlt
        have hw2 := wrap_add1 (n := i) (by unfold lim at hl; omega)
        obtain ⟨a1, _⟩ := nd_lods hr hK hx
        have i1 := nd_idx hr hx .i64
        have vx := hA x (List.mem_of_getElem? hx)
        have hdr : l.drop i = x :: l.drop (i + 1) := by
          rw [List.drop_eq_getElem_cons hlt]
          congr 1
          have := (List.getElem?_eq_some_iff.1 hx).2
          exact this
        rw [hdr, ofFold, ofStep] at hfold
        have h15 : ((15 : Int) = 0) = False := by decide
        cases ha2 : lookN A x.d with
        | none =>
          have lkA := look_miss gA ha2 (.agg [.int .i64 0, .int .i64 0, .int .i64 0, .int .i64 0, .int .i64 0, .int .i32 0])
          rw [ha2] at hfold
          simp only [Bool.false_eq_true, if_false] at hfold
          by_cases hd : x.x = 0
          · have tAe : ∃ tA, tA = t := ⟨_, rfl⟩
            obtain ⟨tA, htA⟩ := tAe
            have hx0 : (x.x = 0) = True := eq_true hd
            have gMA : tA.get mM = some (mapN M) := by rw [htA]; exact gM
            have gAA : tA.get mA = some (mapN A) := by rw [htA]; exact gA
            have hKA : Keep s tA := by rw [htA]; exact hK
            have hs1 : sameN t.next tA := by rw [htA]; rfl
            have hvA2 := hvA
            rw [if_pos hd] at hfold
            have lMA := lt_of_get gMA
            cases hm : lookN M x.d with
            | none =>
              have lkM := look_miss gMA hm (.agg [.int .i64 0, .int .i64 0, .int .i64 0, .int .i64 0, .int .i64 0, .int .i32 0])
              have mM2 := mset_map gMA x
              rw [hm] at hfold
              simp only at hfold
              obtain ⟨tB, htB⟩ : ∃ tB, tB = tA.put mM (mapN (updN M x)) := ⟨_, rfl⟩
              rw [← htB] at mM2
              have gMB : tB.get mM = some (mapN (updN M x)) := by rw [htB]; exact St.get_put_same gMA
              have gAB : tB.get mA = some (mapN A) := by rw [htB, St.get_put_ne _ _ lMA (Ne.symm hne)]; exact gAA
              have hKB : Keep s tB := by rw [htB]; exact hKA.put _ hmM' lMA
              have lMB := lt_of_get gMB
              have lAB := lt_of_get gAB
              have hs2 : sameN t.next tB := by rw [htB]; exact hs1
              subst htA
              simp (config := {contextual := true, maxDischargeDepth := 12}) only [tb, q_Merge, q_Dead, e23, e24, e25, e4, e5, he, hlt, hw2, a1, i1, lM, lA, lkA, hx0, lkM, mM2, hs1, hs2, lMA, lMB, lAB, ↓bD, bU, forall_const, List.all_cons, List.all_nil, Option.map_some, List.map_cons, List.map_nil, ne_eq, implies_true, isNx, cs_dec, cs_not, cs_and, cs_or, cs_valid, eq_self, ↓wp_cond, ↓wp_loop, ↓reduceIte, reduceCtorEq, Nat.reduceEqDiff, Nat.reduceLT, Nat.reduceAdd, Nat.reduceMul, Int.ofNat_lt, Int.ofNat_le, exists_const, ae_app, ap_slc, Option.map_none, mkR_none, mkR_some, ar_look, ae_mset, ae_rng, ae_mkmap0, ar_ent, lookV_push, lookV_lowed, msetV_push, msetV_lowed, lt_put, same_put, sto_over, sto_lowed, cs_dead, Option.map_some]
              refine ⟨n - 1, by omega, ?_⟩
              rw [hI]
              refine ⟨by simp (config := {maxDischargeDepth := 12}) only [kt_push, kt_lowed, hKB], i + 1, updN M x, A, by omega, by simp only [E_pne, E_psame, elen_put, Nat.reduceEqDiff, ne_eq, not_false_eq_true, Nat.reduceLT, he], by simp only [E_pne, E_psame, elen_put, Nat.reduceEqDiff, ne_eq, not_false_eq_true, Nat.reduceLT, e23], by simp only [E_pne, E_psame, elen_put, Nat.reduceEqDiff, ne_eq, not_false_eq_true, Nat.reduceLT, e24], by simp only [E_pne, E_psame, elen_put, Nat.reduceEqDiff, ne_eq, not_false_eq_true, Nat.reduceLT, he], by simp only [E_pne, E_psame, elen_put, Nat.reduceEqDiff, ne_eq, not_false_eq_true, Nat.reduceLT, e4], by simp only [E_pne, E_psame, elen_put, Nat.reduceEqDiff, ne_eq, not_false_eq_true, Nat.reduceLT, e5], ?_, ?_, hfold, fun y hy => ?_, hvA2, by have := updN_len M x; omega, updN_nodup hnd⟩
              · simp (config := {maxDischargeDepth := 12}) only [gt_push, lt_push, lt_lowed, lowed_get, lMB, gMB]
              · simp (config := {maxDischargeDepth := 12}) only [gt_push, lt_push, lt_lowed, lowed_get, lAB, gAB]
              · rcases updN_mem hy with rfl | hy
                · exact vx
                · exact hvM y hy
            | some p =>
              obtain ⟨jj, old⟩ := p
              obtain ⟨ho1, ho2⟩ := lookN_some hm
              have vo := hvM old (List.mem_of_getElem? ho1)
              have lkM := look_hit gMA hm (.agg [.int .i64 0, .int .i64 0, .int .i64 0, .int .i64 0, .int .i64 0, .int .i32 0])
              rw [hm] at hfold
              simp only at hfold
              by_cases hc2 : old.clash x = true
              · have hg2 : mergeV old x = .tup [.agg (Nd.av nd0), .int .i64 15] := by simp [mergeV, vo, vx, hc2]
                rw [if_pos hc2] at hfold
                simp only at hfold
                rw [hfold] at hp
                injection hp with hp
                obtain ⟨rfl, rfl⟩ := Prod.mk.inj hp
                subst htA
                simp (config := {contextual := true, maxDischargeDepth := 12}) only [tb, q_Merge, q_Dead, e23, e24, e25, e4, e5, he, hlt, hw2, a1, i1, lM, lA, lkA, hx0, lkM, hg2, h15, hs1, lMA, ↓bD, bU, forall_const, List.all_cons, List.all_nil, Option.map_some, List.map_cons, List.map_nil, ne_eq, implies_true, isNx, cs_dec, cs_not, cs_and, cs_or, cs_valid, eq_self, ↓wp_cond, ↓wp_loop, ↓reduceIte, reduceCtorEq, Nat.reduceEqDiff, Nat.reduceLT, Nat.reduceAdd, Nat.reduceMul, Int.ofNat_lt, Int.ofNat_le, exists_const, ae_app, ap_slc, Option.map_none, mkR_none, mkR_some, ar_look, ae_mset, ae_rng, ae_mkmap0, ar_ent, lookV_push, lookV_lowed, msetV_push, msetV_lowed, lt_put, same_put, sto_over, sto_lowed, cs_dead, Option.map_some]
                exact ⟨by simp (config := {maxDischargeDepth := 12}) only [kt_push, kt_lowed, hKA], _, rfl, .nil _ _ _⟩
              · have hg2 : mergeV old x = .tup [.agg (Nd.av (old.merge x)), .int .i64 0] := by simp [mergeV, vo, vx, hc2]
                rw [if_neg hc2] at hfold
                simp only at hfold
                have mM2 := mset_map gMA (old.merge x)
                obtain ⟨tB, htB⟩ : ∃ tB, tB = tA.put mM (mapN (updN M (old.merge x))) := ⟨_, rfl⟩
                rw [← htB] at mM2
                have gMB : tB.get mM = some (mapN (updN M (old.merge x))) := by rw [htB]; exact St.get_put_same gMA
                have gAB : tB.get mA = some (mapN A) := by rw [htB, St.get_put_ne _ _ lMA (Ne.symm hne)]; exact gAA
                have hKB : Keep s tB := by rw [htB]; exact hKA.put _ hmM' lMA
                have lMB := lt_of_get gMB
                have lAB := lt_of_get gAB
                have hs2 : sameN t.next tB := by rw [htB]; exact hs1
                subst htA
                simp (config := {contextual := true, maxDischargeDepth := 12}) only [tb, q_Merge, q_Dead, e23, e24, e25, e4, e5, he, hlt, hw2, a1, i1, lM, lA, lkA, hx0, hg2, lkM, mM2, hs1, hs2, lMA, lMB, lAB, ↓bD, bU, forall_const, List.all_cons, List.all_nil, Option.map_some, List.map_cons, List.map_nil, ne_eq, implies_true, isNx, cs_dec, cs_not, cs_and, cs_or, cs_valid, eq_self, ↓wp_cond, ↓wp_loop, ↓reduceIte, reduceCtorEq, Nat.reduceEqDiff, Nat.reduceLT, Nat.reduceAdd, Nat.reduceMul, Int.ofNat_lt, Int.ofNat_le, exists_const, ae_app, ap_slc, Option.map_none, mkR_none, mkR_some, ar_look, ae_mset, ae_rng, ae_mkmap0, ar_ent, lookV_push, lookV_lowed, msetV_push, msetV_lowed, lt_put, same_put, sto_over, sto_lowed, cs_dead, Option.map_some]
                refine ⟨n - 1, by omega, ?_⟩
                rw [hI]
                refine ⟨by simp (config := {maxDischargeDepth := 12}) only [kt_push, kt_lowed, hKB], i + 1, updN M (old.merge x), A, by omega, by simp only [E_pne, E_psame, elen_put, Nat.reduceEqDiff, ne_eq, not_false_eq_true, Nat.reduceLT, he], by simp only [E_pne, E_psame, elen_put, Nat.reduceEqDiff, ne_eq, not_false_eq_true, Nat.reduceLT, e23], by simp only [E_pne, E_psame, elen_put, Nat.reduceEqDiff, ne_eq, not_false_eq_true, Nat.reduceLT, e24], by simp only [E_pne, E_psame, elen_put, Nat.reduceEqDiff, ne_eq, not_false_eq_true, Nat.reduceLT, he], by simp only [E_pne, E_psame, elen_put, Nat.reduceEqDiff, ne_eq, not_false_eq_true, Nat.reduceLT, e4], by simp only [E_pne, E_psame, elen_put, Nat.reduceEqDiff, ne_eq, not_false_eq_true, Nat.reduceLT, e5], ?_, ?_, hfold, fun y hy => ?_, hvA2, by have := updN_len M (old.merge x); omega, updN_nodup hnd⟩
                · simp (config := {maxDischargeDepth := 12}) only [gt_push, lt_push, lt_lowed, lowed_get, lMB, gMB]
                · simp (config := {maxDischargeDepth := 12}) only [gt_push, lt_push, lt_lowed, lowed_get, lAB, gAB]
                · rcases updN_mem hy with rfl | hy
                  · exact (merge_valid vo vx)
                  · exact hvM y hy
          · have tAe : ∃ tA, tA = t.put mA (mapN (updN A x)) := ⟨_, rfl⟩
            obtain ⟨tA, htA⟩ := tAe
            have hx0 : (x.x = 0) = False := eq_false hd
            have gMA : tA.get mM = some (mapN M) := by rw [htA, St.get_put_ne _ _ lA hne]; exact gM
            have gAA : tA.get mA = some (mapN (updN A x)) := by rw [htA]; exact St.get_put_same gA
            have hKA : Keep s tA := by rw [htA]; exact hK.put _ hmA' lA
            have hs1 : sameN t.next tA := by rw [htA]; rfl
            have mS := mset_map gA x
            rw [← htA] at mS
            have hvA2 : ∀ y ∈ updN A x, y.valid = true := fun y hy => by
              rcases updN_mem hy with rfl | hy
              · exact vx
              · exact hvA y hy
            rw [if_neg hd] at hfold
            have lMA := lt_of_get gMA
            cases hm : lookN M x.d with
            | none =>
              have lkM := look_miss gMA hm (.agg [.int .i64 0, .int .i64 0, .int .i64 0, .int .i64 0, .int .i64 0, .int .i32 0])
              have mM2 := mset_map gMA x
              rw [hm] at hfold
              simp only at hfold
              obtain ⟨tB, htB⟩ : ∃ tB, tB = tA.put mM (mapN (updN M x)) := ⟨_, rfl⟩
              rw [← htB] at mM2
              have gMB : tB.get mM = some (mapN (updN M x)) := by rw [htB]; exact St.get_put_same gMA
              have gAB : tB.get mA = some (mapN (updN A x)) := by rw [htB, St.get_put_ne _ _ lMA (Ne.symm hne)]; exact gAA
              have hKB : Keep s tB := by rw [htB]; exact hKA.put _ hmM' lMA
              have lMB := lt_of_get gMB
              have lAB := lt_of_get gAB
              have hs2 : sameN t.next tB := by rw [htB]; exact hs1
              simp (config := {contextual := true, maxDischargeDepth := 12}) only [tb, q_Merge, q_Dead, e23, e24, e25, e4, e5, he, hlt, hw2, a1, i1, lM, lA, lkA, hx0, mS, lkM, mM2, hs1, hs2, lMA, lMB, lAB, ↓bD, bU, forall_const, List.all_cons, List.all_nil, Option.map_some, List.map_cons, List.map_nil, ne_eq, implies_true, isNx, cs_dec, cs_not, cs_and, cs_or, cs_valid, eq_self, ↓wp_cond, ↓wp_loop, ↓reduceIte, reduceCtorEq, Nat.reduceEqDiff, Nat.reduceLT, Nat.reduceAdd, Nat.reduceMul, Int.ofNat_lt, Int.ofNat_le, exists_const, ae_app, ap_slc, Option.map_none, mkR_none, mkR_some, ar_look, ae_mset, ae_rng, ae_mkmap0, ar_ent, lookV_push, lookV_lowed, msetV_push, msetV_lowed, lt_put, same_put, sto_over, sto_lowed, cs_dead, Option.map_some]
              refine ⟨n - 1, by omega, ?_⟩
              rw [hI]
              refine ⟨by simp (config := {maxDischargeDepth := 12}) only [kt_push, kt_lowed, hKB], i + 1, updN M x, (updN A x), by omega, by simp only [E_pne, E_psame, elen_put, Nat.reduceEqDiff, ne_eq, not_false_eq_true, Nat.reduceLT, he], by simp only [E_pne, E_psame, elen_put, Nat.reduceEqDiff, ne_eq, not_false_eq_true, Nat.reduceLT, e23], by simp only [E_pne, E_psame, elen_put, Nat.reduceEqDiff, ne_eq, not_false_eq_true, Nat.reduceLT, e24], by simp only [E_pne, E_psame, elen_put, Nat.reduceEqDiff, ne_eq, not_false_eq_true, Nat.reduceLT, he], by simp only [E_pne, E_psame, elen_put, Nat.reduceEqDiff, ne_eq, not_false_eq_true, Nat.reduceLT, e4], by simp only [E_pne, E_psame, elen_put, Nat.reduceEqDiff, ne_eq, not_false_eq_true, Nat.reduceLT, e5], ?_, ?_, hfold, fun y hy => ?_, hvA2, by have := updN_len M x; omega, updN_nodup hnd⟩
              · simp (config := {maxDischargeDepth := 12}) only [gt_push, lt_push, lt_lowed, lowed_get, lMB, gMB]
              · simp (config := {maxDischargeDepth := 12}) only [gt_push, lt_push, lt_lowed, lowed_get, lAB, gAB]
              · rcases updN_mem hy with rfl | hy
                · exact vx
                · exact hvM y hy
            | some p =>
              obtain ⟨jj, old⟩ := p
              obtain ⟨ho1, ho2⟩ := lookN_some hm
              have vo := hvM old (List.mem_of_getElem? ho1)
              have lkM := look_hit gMA hm (.agg [.int .i64 0, .int .i64 0, .int .i64 0, .int .i64 0, .int .i64 0, .int .i32 0])
              rw [hm] at hfold
              simp only at hfold
              by_cases hc2 : old.clash x = true
              · have hg2 : mergeV old x = .tup [.agg (Nd.av nd0), .int .i64 15] := by simp [mergeV, vo, vx, hc2]
                rw [if_pos hc2] at hfold
                simp only at hfold
                rw [hfold] at hp
                injection hp with hp
                obtain ⟨rfl, rfl⟩ := Prod.mk.inj hp
                simp (config := {contextual := true, maxDischargeDepth := 12}) only [tb, q_Merge, q_Dead, e23, e24, e25, e4, e5, he, hlt, hw2, a1, i1, lM, lA, lkA, hx0, mS, lkM, hg2, h15, hs1, lMA, ↓bD, bU, forall_const, List.all_cons, List.all_nil, Option.map_some, List.map_cons, List.map_nil, ne_eq, implies_true, isNx, cs_dec, cs_not, cs_and, cs_or, cs_valid, eq_self, ↓wp_cond, ↓wp_loop, ↓reduceIte, reduceCtorEq, Nat.reduceEqDiff, Nat.reduceLT, Nat.reduceAdd, Nat.reduceMul, Int.ofNat_lt, Int.ofNat_le, exists_const, ae_app, ap_slc, Option.map_none, mkR_none, mkR_some, ar_look, ae_mset, ae_rng, ae_mkmap0, ar_ent, lookV_push, lookV_lowed, msetV_push, msetV_lowed, lt_put, same_put, sto_over, sto_lowed, cs_dead, Option.map_some]
                exact ⟨by simp (config := {maxDischargeDepth := 12}) only [kt_push, kt_lowed, hKA], _, rfl, .nil _ _ _⟩
              · have hg2 : mergeV old x = .tup [.agg (Nd.av (old.merge x)), .int .i64 0] := by simp [mergeV, vo, vx, hc2]
                rw [if_neg hc2] at hfold
                simp only at hfold
                have mM2 := mset_map gMA (old.merge x)
                obtain ⟨tB, htB⟩ : ∃ tB, tB = tA.put mM (mapN (updN M (old.merge x))) := ⟨_, rfl⟩
                rw [← htB] at mM2
                have gMB : tB.get mM = some (mapN (updN M (old.merge x))) := by rw [htB]; exact St.get_put_same gMA
                have gAB : tB.get mA = some (mapN (updN A x)) := by rw [htB, St.get_put_ne _ _ lMA (Ne.symm hne)]; exact gAA
                have hKB : Keep s tB := by rw [htB]; exact hKA.put _ hmM' lMA
                have lMB := lt_of_get gMB
                have lAB := lt_of_get gAB
                have hs2 : sameN t.next tB := by rw [htB]; exact hs1
                simp (config := {contextual := true, maxDischargeDepth := 12}) only [tb, q_Merge, q_Dead, e23, e24, e25, e4, e5, he, hlt, hw2, a1, i1, lM, lA, lkA, hx0, mS, hg2, lkM, mM2, hs1, hs2, lMA, lMB, lAB, ↓bD, bU, forall_const, List.all_cons, List.all_nil, Option.map_some, List.map_cons, List.map_nil, ne_eq, implies_true, isNx, cs_dec, cs_not, cs_and, cs_or, cs_valid, eq_self, ↓wp_cond, ↓wp_loop, ↓reduceIte, reduceCtorEq, Nat.reduceEqDiff, Nat.reduceLT, Nat.reduceAdd, Nat.reduceMul, Int.ofNat_lt, Int.ofNat_le, exists_const, ae_app, ap_slc, Option.map_none, mkR_none, mkR_some, ar_look, ae_mset, ae_rng, ae_mkmap0, ar_ent, lookV_push, lookV_lowed, msetV_push, msetV_lowed, lt_put, same_put, sto_over, sto_lowed, cs_dead, Option.map_some]
                refine ⟨n - 1, by omega, ?_⟩
                rw [hI]
                refine ⟨by simp (config := {maxDischargeDepth := 12}) only [kt_push, kt_lowed, hKB], i + 1, updN M (old.merge x), (updN A x), by omega, by simp only [E_pne, E_psame, elen_put, Nat.reduceEqDiff, ne_eq, not_false_eq_true, Nat.reduceLT, he], by simp only [E_pne, E_psame, elen_put, Nat.reduceEqDiff, ne_eq, not_false_eq_true, Nat.reduceLT, e23], by simp only [E_pne, E_psame, elen_put, Nat.reduceEqDiff, ne_eq, not_false_eq_true, Nat.reduceLT, e24], by simp only [E_pne, E_psame, elen_put, Nat.reduceEqDiff, ne_eq, not_false_eq_true, Nat.reduceLT, he], by simp only [E_pne, E_psame, elen_put, Nat.reduceEqDiff, ne_eq, not_false_eq_true, Nat.reduceLT, e4], by simp only [E_pne, E_psame, elen_put, Nat.reduceEqDiff, ne_eq, not_false_eq_true, Nat.reduceLT, e5], ?_, ?_, hfold, fun y hy => ?_, hvA2, by have := updN_len M (old.merge x); omega, updN_nodup hnd⟩
                · simp (config := {maxDischargeDepth := 12}) only [gt_push, lt_push, lt_lowed, lowed_get, lMB, gMB]
                · simp (config := {maxDischargeDepth := 12}) only [gt_push, lt_push, lt_lowed, lowed_get, lAB, gAB]
                · rcases updN_mem hy with rfl | hy
                  · exact (merge_valid vo vx)
                  · exact hvM y hy
        | some p =>
          obtain ⟨j0, x0⟩ := p
          obtain ⟨ho3, ho4⟩ := lookN_some ha2
          have v0 := hvA x0 (List.mem_of_getElem? ho3)
          have lkA := look_hit gA ha2 (.agg [.int .i64 0, .int .i64 0, .int .i64 0, .int .i64 0, .int .i64 0, .int .i32 0])
          rw [ha2] at hfold
          simp only at hfold
          by_cases hc1 : x0.clash x = true
          · have hg1 : mergeV x0 x = .tup [.agg (Nd.av nd0), .int .i64 15] := by simp [mergeV, v0, vx, hc1]
            rw [if_pos hc1] at hfold
            simp only at hfold
            rw [hfold] at hp
            injection hp with hp
            obtain ⟨rfl, rfl⟩ := Prod.mk.inj hp
            simp (config := {contextual := true, maxDischargeDepth := 12}) only [tb, q_Merge, q_Dead, e23, e24, e25, e4, e5, he, hlt, hw2, a1, i1, lM, lA, lkA, hg1, h15, ↓bD, bU, forall_const, List.all_cons, List.all_nil, Option.map_some, List.map_cons, List.map_nil, ne_eq, implies_true, isNx, cs_dec, cs_not, cs_and, cs_or, cs_valid, eq_self, ↓wp_cond, ↓wp_loop, ↓reduceIte, reduceCtorEq, Nat.reduceEqDiff, Nat.reduceLT, Nat.reduceAdd, Nat.reduceMul, Int.ofNat_lt, Int.ofNat_le, exists_const, ae_app, ap_slc, Option.map_none, mkR_none, mkR_some, ar_look, ae_mset, ae_rng, ae_mkmap0, ar_ent, lookV_push, lookV_lowed, msetV_push, msetV_lowed, lt_put, same_put, sto_over, sto_lowed, cs_dead, Option.map_some]
            exact ⟨by simp (config := {maxDischargeDepth := 12}) only [kt_push, kt_lowed, hK], _, rfl, .nil _ _ _⟩
          · have hg1 : mergeV x0 x = .tup [.agg (Nd.av (x0.merge x)), .int .i64 0] := by simp [mergeV, v0, vx, hc1]
            rw [if_neg hc1] at hfold
            by_cases hd : x.x = 0
            · have tAe : ∃ tA, tA = t := ⟨_, rfl⟩
              obtain ⟨tA, htA⟩ := tAe
              have hx0 : (x.x = 0) = True := eq_true hd
              have gMA : tA.get mM = some (mapN M) := by rw [htA]; exact gM
              have gAA : tA.get mA = some (mapN A) := by rw [htA]; exact gA
              have hKA : Keep s tA := by rw [htA]; exact hK
              have hs1 : sameN t.next tA := by rw [htA]; rfl
              have hvA2 := hvA
              rw [if_pos hd] at hfold
              have lMA := lt_of_get gMA
              cases hm : lookN M x.d with
              | none =>
                have lkM := look_miss gMA hm (.agg [.int .i64 0, .int .i64 0, .int .i64 0, .int .i64 0, .int .i64 0, .int .i32 0])
                have mM2 := mset_map gMA x
                rw [hm] at hfold
                simp only at hfold
                obtain ⟨tB, htB⟩ : ∃ tB, tB = tA.put mM (mapN (updN M x)) := ⟨_, rfl⟩
                rw [← htB] at mM2
                have gMB : tB.get mM = some (mapN (updN M x)) := by rw [htB]; exact St.get_put_same gMA
                have gAB : tB.get mA = some (mapN A) := by rw [htB, St.get_put_ne _ _ lMA (Ne.symm hne)]; exact gAA
                have hKB : Keep s tB := by rw [htB]; exact hKA.put _ hmM' lMA
                have lMB := lt_of_get gMB
                have lAB := lt_of_get gAB
                have hs2 : sameN t.next tB := by rw [htB]; exact hs1
                subst htA
                simp (config := {contextual := true, maxDischargeDepth := 12}) only [tb, q_Merge, q_Dead, e23, e24, e25, e4, e5, he, hlt, hw2, a1, i1, lM, lA, lkA, hg1, hx0, lkM, mM2, hs1, hs2, lMA, lMB, lAB, ↓bD, bU, forall_const, List.all_cons, List.all_nil, Option.map_some, List.map_cons, List.map_nil, ne_eq, implies_true, isNx, cs_dec, cs_not, cs_and, cs_or, cs_valid, eq_self, ↓wp_cond, ↓wp_loop, ↓reduceIte, reduceCtorEq, Nat.reduceEqDiff, Nat.reduceLT, Nat.reduceAdd, Nat.reduceMul, Int.ofNat_lt, Int.ofNat_le, exists_const, ae_app, ap_slc, Option.map_none, mkR_none, mkR_some, ar_look, ae_mset, ae_rng, ae_mkmap0, ar_ent, lookV_push, lookV_lowed, msetV_push, msetV_lowed, lt_put, same_put, sto_over, sto_lowed, cs_dead, Option.map_some]
                refine ⟨n - 1, by omega, ?_⟩
                rw [hI]
                refine ⟨by simp (config := {maxDischargeDepth := 12}) only [kt_push, kt_lowed, hKB], i + 1, updN M x, A, by omega, by simp only [E_pne, E_psame, elen_put, Nat.reduceEqDiff, ne_eq, not_false_eq_true, Nat.reduceLT, he], by simp only [E_pne, E_psame, elen_put, Nat.reduceEqDiff, ne_eq, not_false_eq_true, Nat.reduceLT, e23], by simp only [E_pne, E_psame, elen_put, Nat.reduceEqDiff, ne_eq, not_false_eq_true, Nat.reduceLT, e24], by simp only [E_pne, E_psame, elen_put, Nat.reduceEqDiff, ne_eq, not_false_eq_true, Nat.reduceLT, he], by simp only [E_pne, E_psame, elen_put, Nat.reduceEqDiff, ne_eq, not_false_eq_true, Nat.reduceLT, e4], by simp only [E_pne, E_psame, elen_put, Nat.reduceEqDiff, ne_eq, not_false_eq_true, Nat.reduceLT, e5], ?_, ?_, hfold, fun y hy => ?_, hvA2, by have := updN_len M x; omega, updN_nodup hnd⟩
                · simp (config := {maxDischargeDepth := 12}) only [gt_push, lt_push, lt_lowed, lowed_get, lMB, gMB]
                · simp (config := {maxDischargeDepth := 12}) only [gt_push, lt_push, lt_lowed, lowed_get, lAB, gAB]
                · rcases updN_mem hy with rfl | hy
                  · exact vx
                  · exact hvM y hy
              | some p =>
                obtain ⟨jj, old⟩ := p
                obtain ⟨ho1, ho2⟩ := lookN_some hm
                have vo := hvM old (List.mem_of_getElem? ho1)
                have lkM := look_hit gMA hm (.agg [.int .i64 0, .int .i64 0, .int .i64 0, .int .i64 0, .int .i64 0, .int .i32 0])
                rw [hm] at hfold
                simp only at hfold
                by_cases hc2 : old.clash x = true
                · have hg2 : mergeV old x = .tup [.agg (Nd.av nd0), .int .i64 15] := by simp [mergeV, vo, vx, hc2]
                  rw [if_pos hc2] at hfold
                  simp only at hfold
                  rw [hfold] at hp
                  injection hp with hp
                  obtain ⟨rfl, rfl⟩ := Prod.mk.inj hp
                  subst htA
                  simp (config := {contextual := true, maxDischargeDepth := 12}) only [tb, q_Merge, q_Dead, e23, e24, e25, e4, e5, he, hlt, hw2, a1, i1, lM, lA, lkA, hg1, hx0, lkM, hg2, h15, hs1, lMA, ↓bD, bU, forall_const, List.all_cons, List.all_nil, Option.map_some, List.map_cons, List.map_nil, ne_eq, implies_true, isNx, cs_dec, cs_not, cs_and, cs_or, cs_valid, eq_self, ↓wp_cond, ↓wp_loop, ↓reduceIte, reduceCtorEq, Nat.reduceEqDiff, Nat.reduceLT, Nat.reduceAdd, Nat.reduceMul, Int.ofNat_lt, Int.ofNat_le, exists_const, ae_app, ap_slc, Option.map_none, mkR_none, mkR_some, ar_look, ae_mset, ae_rng, ae_mkmap0, ar_ent, lookV_push, lookV_lowed, msetV_push, msetV_lowed, lt_put, same_put, sto_over, sto_lowed, cs_dead, Option.map_some]
                  exact ⟨by simp (config := {maxDischargeDepth := 12}) only [kt_push, kt_lowed, hKA], _, rfl, .nil _ _ _⟩
                · have hg2 : mergeV old x = .tup [.agg (Nd.av (old.merge x)), .int .i64 0] := by simp [mergeV, vo, vx, hc2]
                  rw [if_neg hc2] at hfold
                  simp only at hfold
                  have mM2 := mset_map gMA (old.merge x)
                  obtain ⟨tB, htB⟩ : ∃ tB, tB = tA.put mM (mapN (updN M (old.merge x))) := ⟨_, rfl⟩
                  rw [← htB] at mM2
                  have gMB : tB.get mM = some (mapN (updN M (old.merge x))) := by rw [htB]; exact St.get_put_same gMA
                  have gAB : tB.get mA = some (mapN A) := by rw [htB, St.get_put_ne _ _ lMA (Ne.symm hne)]; exact gAA
                  have hKB : Keep s tB := by rw [htB]; exact hKA.put _ hmM' lMA
                  have lMB := lt_of_get gMB
                  have lAB := lt_of_get gAB
                  have hs2 : sameN t.next tB := by rw [htB]; exact hs1
                  subst htA
                  simp (config := {contextual := true, maxDischargeDepth := 12}) only [tb, q_Merge, q_Dead, e23, e24, e25, e4, e5, he, hlt, hw2, a1, i1, lM, lA, lkA, hg1, hx0, hg2, lkM, mM2, hs1, hs2, lMA, lMB, lAB, ↓bD, bU, forall_const, List.all_cons, List.all_nil, Option.map_some, List.map_cons, List.map_nil, ne_eq, implies_true, isNx, cs_dec, cs_not, cs_and, cs_or, cs_valid, eq_self, ↓wp_cond, ↓wp_loop, ↓reduceIte, reduceCtorEq, Nat.reduceEqDiff, Nat.reduceLT, Nat.reduceAdd, Nat.reduceMul, Int.ofNat_lt, Int.ofNat_le, exists_const, ae_app, ap_slc, Option.map_none, mkR_none, mkR_some, ar_look, ae_mset, ae_rng, ae_mkmap0, ar_ent, lookV_push, lookV_lowed, msetV_push, msetV_lowed, lt_put, same_put, sto_over, sto_lowed, cs_dead, Option.map_some]
                  refine ⟨n - 1, by omega, ?_⟩
                  rw [hI]
                  refine ⟨by simp (config := {maxDischargeDepth := 12}) only [kt_push, kt_lowed, hKB], i + 1, updN M (old.merge x), A, by omega, by simp only [E_pne, E_psame, elen_put, Nat.reduceEqDiff, ne_eq, not_false_eq_true, Nat.reduceLT, he], by simp only [E_pne, E_psame, elen_put, Nat.reduceEqDiff, ne_eq, not_false_eq_true, Nat.reduceLT, e23], by simp only [E_pne, E_psame, elen_put, Nat.reduceEqDiff, ne_eq, not_false_eq_true, Nat.reduceLT, e24], by simp only [E_pne, E_psame, elen_put, Nat.reduceEqDiff, ne_eq, not_false_eq_true, Nat.reduceLT, he], by simp only [E_pne, E_psame, elen_put, Nat.reduceEqDiff, ne_eq, not_false_eq_true, Nat.reduceLT, e4], by simp only [E_pne, E_psame, elen_put, Nat.reduceEqDiff, ne_eq, not_false_eq_true, Nat.reduceLT, e5], ?_, ?_, hfold, fun y hy => ?_, hvA2, by have := updN_len M (old.merge x); omega, updN_nodup hnd⟩
                  · simp (config := {maxDischargeDepth := 12}) only [gt_push, lt_push, lt_lowed, lowed_get, lMB, gMB]
                  · simp (config := {maxDischargeDepth := 12}) only [gt_push, lt_push, lt_lowed, lowed_get, lAB, gAB]
                  · rcases updN_mem hy with rfl | hy
                    · exact (merge_valid vo vx)
                    · exact hvM y hy
            · have tAe : ∃ tA, tA = t.put mA (mapN (updN A x)) := ⟨_, rfl⟩
              obtain ⟨tA, htA⟩ := tAe
              have hx0 : (x.x = 0) = False := eq_false hd
              have gMA : tA.get mM = some (mapN M) := by rw [htA, St.get_put_ne _ _ lA hne]; exact gM
              have gAA : tA.get mA = some (mapN (updN A x)) := by rw [htA]; exact St.get_put_same gA
              have hKA : Keep s tA := by rw [htA]; exact hK.put _ hmA' lA
              have hs1 : sameN t.next tA := by rw [htA]; rfl
              have mS := mset_map gA x
              rw [← htA] at mS
              have hvA2 : ∀ y ∈ updN A x, y.valid = true := fun y hy => by
                rcases updN_mem hy with rfl | hy
                · exact vx
                · exact hvA y hy
              rw [if_neg hd] at hfold
              have lMA := lt_of_get gMA
              cases hm : lookN M x.d with
              | none =>
                have lkM := look_miss gMA hm (.agg [.int .i64 0, .int .i64 0, .int .i64 0, .int .i64 0, .int .i64 0, .int .i32 0])
                have mM2 := mset_map gMA x
                rw [hm] at hfold
                simp only at hfold
                obtain ⟨tB, htB⟩ : ∃ tB, tB = tA.put mM (mapN (updN M x)) := ⟨_, rfl⟩
                rw [← htB] at mM2
                have gMB : tB.get mM = some (mapN (updN M x)) := by rw [htB]; exact St.get_put_same gMA
                have gAB : tB.get mA = some (mapN (updN A x)) := by rw [htB, St.get_put_ne _ _ lMA (Ne.symm hne)]; exact gAA
                have hKB : Keep s tB := by rw [htB]; exact hKA.put _ hmM' lMA
                have lMB := lt_of_get gMB
                have lAB := lt_of_get gAB
                have hs2 : sameN t.next tB := by rw [htB]; exact hs1
                simp (config := {contextual := true, maxDischargeDepth := 12}) only [tb, q_Merge, q_Dead, e23, e24, e25, e4, e5, he, hlt, hw2, a1, i1, lM, lA, lkA, hg1, hx0, mS, lkM, mM2, hs1, hs2, lMA, lMB, lAB, ↓bD, bU, forall_const, List.all_cons, List.all_nil, Option.map_some, List.map_cons, List.map_nil, ne_eq, implies_true, isNx, cs_dec, cs_not, cs_and, cs_or, cs_valid, eq_self, ↓wp_cond, ↓wp_loop, ↓reduceIte, reduceCtorEq, Nat.reduceEqDiff, Nat.reduceLT, Nat.reduceAdd, Nat.reduceMul, Int.ofNat_lt, Int.ofNat_le, exists_const, ae_app, ap_slc, Option.map_none, mkR_none, mkR_some, ar_look, ae_mset, ae_rng, ae_mkmap0, ar_ent, lookV_push, lookV_lowed, msetV_push, msetV_lowed, lt_put, same_put, sto_over, sto_lowed, cs_dead, Option.map_some]
                refine ⟨n - 1, by omega, ?_⟩
                rw [hI]
                refine ⟨by simp (config := {maxDischargeDepth := 12}) only [kt_push, kt_lowed, hKB], i + 1, updN M x, (updN A x), by omega, by simp only [E_pne, E_psame, elen_put, Nat.reduceEqDiff, ne_eq, not_false_eq_true, Nat.reduceLT, he], by simp only [E_pne, E_psame, elen_put, Nat.reduceEqDiff, ne_eq, not_false_eq_true, Nat.reduceLT, e23], by simp only [E_pne, E_psame, elen_put, Nat.reduceEqDiff, ne_eq, not_false_eq_true, Nat.reduceLT, e24], by simp only [E_pne, E_psame, elen_put, Nat.reduceEqDiff, ne_eq, not_false_eq_true, Nat.reduceLT, he], by simp only [E_pne, E_psame, elen_put, Nat.reduceEqDiff, ne_eq, not_false_eq_true, Nat.reduceLT, e4], by simp only [E_pne, E_psame, elen_put, Nat.reduceEqDiff, ne_eq, not_false_eq_true, Nat.reduceLT, e5], ?_, ?_, hfold, fun y hy => ?_, hvA2, by have := updN_len M x; omega, updN_nodup hnd⟩
                · simp (config := {maxDischargeDepth := 12}) only [gt_push, lt_push, lt_lowed, lowed_get, lMB, gMB]
                · simp (config := {maxDischargeDepth := 12}) only [gt_push, lt_push, lt_lowed, lowed_get, lAB, gAB]
                · rcases updN_mem hy with rfl | hy
                  · exact vx
                  · exact hvM y hy
              | some p =>
                obtain ⟨jj, old⟩ := p
                obtain ⟨ho1, ho2⟩ := lookN_some hm
                have vo := hvM old (List.mem_of_getElem? ho1)
                have lkM := look_hit gMA hm (.agg [.int .i64 0, .int .i64 0, .int .i64 0, .int .i64 0, .int .i64 0, .int .i32 0])
                rw [hm] at hfold
                simp only at hfold
                by_cases hc2 : old.clash x = true
                · have hg2 : mergeV old x = .tup [.agg (Nd.av nd0), .int .i64 15] := by simp [mergeV, vo, vx, hc2]
                  rw [if_pos hc2] at hfold
                  simp only at hfold
                  rw [hfold] at hp
                  injection hp with hp
                  obtain ⟨rfl, rfl⟩ := Prod.mk.inj hp
                  simp (config := {contextual := true, maxDischargeDepth := 12}) only [tb, q_Merge, q_Dead, e23, e24, e25, e4, e5, he, hlt, hw2, a1, i1, lM, lA, lkA, hg1, hx0, mS, lkM, hg2, h15, hs1, lMA, ↓bD, bU, forall_const, List.all_cons, List.all_nil, Option.map_some, List.map_cons, List.map_nil, ne_eq, implies_true, isNx, cs_dec, cs_not, cs_and, cs_or, cs_valid, eq_self, ↓wp_cond, ↓wp_loop, ↓reduceIte, reduceCtorEq, Nat.reduceEqDiff, Nat.reduceLT, Nat.reduceAdd, Nat.reduceMul, Int.ofNat_lt, Int.ofNat_le, exists_const, ae_app, ap_slc, Option.map_none, mkR_none, mkR_some, ar_look, ae_mset, ae_rng, ae_mkmap0, ar_ent, lookV_push, lookV_lowed, msetV_push, msetV_lowed, lt_put, same_put, sto_over, sto_lowed, cs_dead, Option.map_some]
                  exact ⟨by simp (config := {maxDischargeDepth := 12}) only [kt_push, kt_lowed, hKA], _, rfl, .nil _ _ _⟩
                · have hg2 : mergeV old x = .tup [.agg (Nd.av (old.merge x)), .int .i64 0] := by simp [mergeV, vo, vx, hc2]
                  rw [if_neg hc2] at hfold
                  simp only at hfold
                  have mM2 := mset_map gMA (old.merge x)
                  obtain ⟨tB, htB⟩ : ∃ tB, tB = tA.put mM (mapN (updN M (old.merge x))) := ⟨_, rfl⟩
                  rw [← htB] at mM2
                  have gMB : tB.get mM = some (mapN (updN M (old.merge x))) := by rw [htB]; exact St.get_put_same gMA
                  have gAB : tB.get mA = some (mapN (updN A x)) := by rw [htB, St.get_put_ne _ _ lMA (Ne.symm hne)]; exact gAA
                  have hKB : Keep s tB := by rw [htB]; exact hKA.put _ hmM' lMA
                  have lMB := lt_of_get gMB
                  have lAB := lt_of_get gAB
                  have hs2 : sameN t.next tB := by rw [htB]; exact hs1
                  simp (config := {contextual := true, maxDischargeDepth := 12}) only [tb, q_Merge, q_Dead, e23, e24, e25, e4, e5, he, hlt, hw2, a1, i1, lM, lA, lkA, hg1, hx0, mS, hg2, lkM, mM2, hs1, hs2, lMA, lMB, lAB, ↓bD, bU, forall_const, List.all_cons, List.all_nil, Option.map_some, List.map_cons, List.map_nil, ne_eq, implies_true, isNx, cs_dec, cs_not, cs_and, cs_or, cs_valid, eq_self, ↓wp_cond, ↓wp_loop, ↓reduceIte, reduceCtorEq, Nat.reduceEqDiff, Nat.reduceLT, Nat.reduceAdd, Nat.reduceMul, Int.ofNat_lt, Int.ofNat_le, exists_const, ae_app, ap_slc, Option.map_none, mkR_none, mkR_some, ar_look, ae_mset, ae_rng, ae_mkmap0, ar_ent, lookV_push, lookV_lowed, msetV_push, msetV_lowed, lt_put, same_put, sto_over, sto_lowed, cs_dead, Option.map_some]
                  refine ⟨n - 1, by omega, ?_⟩
                  rw [hI]
                  refine ⟨by simp (config := {maxDischargeDepth := 12}) only [kt_push, kt_lowed, hKB], i + 1, updN M (old.merge x), (updN A x), by omega, by simp only [E_pne, E_psame, elen_put, Nat.reduceEqDiff, ne_eq, not_false_eq_true, Nat.reduceLT, he], by simp only [E_pne, E_psame, elen_put, Nat.reduceEqDiff, ne_eq, not_false_eq_true, Nat.reduceLT, e23], by simp only [E_pne, E_psame, elen_put, Nat.reduceEqDiff, ne_eq, not_false_eq_true, Nat.reduceLT, e24], by simp only [E_pne, E_psame, elen_put, Nat.reduceEqDiff, ne_eq, not_false_eq_true, Nat.reduceLT, he], by simp only [E_pne, E_psame, elen_put, Nat.reduceEqDiff, ne_eq, not_false_eq_true, Nat.reduceLT, e4], by simp only [E_pne, E_psame, elen_put, Nat.reduceEqDiff, ne_eq, not_false_eq_true, Nat.reduceLT, e5], ?_, ?_, hfold, fun y hy => ?_, hvA2, by have := updN_len M (old.merge x); omega, updN_nodup hnd⟩
                  · simp (config := {maxDischargeDepth := 12}) only [gt_push, lt_push, lt_lowed, lowed_get, lMB, gMB]
                  · simp (config := {maxDischargeDepth := 12}) only [gt_push, lt_push, lt_lowed, lowed_get, lAB, gAB]
                  · rcases updN_mem hy with rfl | hy
                    · exact (merge_valid vo vx)
                    · exact hvM y hy
      · obtain rfl : i = l.length := by omega
        rw [List.drop_length, ofFold] at hfold
        rw [hfold] at hp
        simp only at hp
        injection hp with hp
        obtain ⟨rfl, rfl⟩ := Prod.mk.inj hp
        have hrg := rng_map gM
        simp (config := {contextual := true, maxDischargeDepth := 12}) only [tb, e23, e24, e25, e4, e5, he, hlt, lM, lA, hrg, ↓st_nxt, ↓bD, bU, forall_const, List.all_cons, List.all_nil, Option.map_some, List.map_cons, List.map_nil, ne_eq, implies_true, isNx, cs_dec, cs_not, cs_and, cs_or, cs_valid, eq_self, ↓wp_cond, ↓wp_loop, ↓reduceIte, reduceCtorEq, Nat.reduceEqDiff, Nat.reduceLT, Nat.reduceAdd, Nat.reduceMul, Int.ofNat_lt, Int.ofNat_le, exists_const, ae_app, ap_slc, Option.map_none, mkR_none, mkR_some, ar_look, ae_mset, ae_rng, ae_mkmap0, ar_ent, lookV_push, lookV_lowed, msetV_push, msetV_lowed, lt_put, same_put, sto_over, sto_lowed, cs_dead, Option.map_some]
        obtain ⟨pI, hpI⟩ : ∃ pI, pI = t.next := ⟨_, rfl⟩
        obtain ⟨I2, hI2⟩ : ∃ I : Nat → Env → St → Prop, ∀ n e t, I n e t = (Keep s t ∧ ∃ (seen : List Nat) (acc : List Nd), n + seen.length = M.length ∧ elen e = 89 ∧ E e 77 = .ptr pI 0 ∧ t.get mM = some (mapN M) ∧ t.get pI = some (.iter (some mM) M.length seen M.length) ∧ Own ndC s t (E e 16) acc ∧ seen.Nodup ∧ (∀ i ∈ seen, i < M.length) ∧ acc.map some = seen.map fun i => M[i]?) := ⟨fun n e t => (Keep s t ∧ ∃ (seen : List Nat) (acc : List Nd), n + seen.length = M.length ∧ elen e = 89 ∧ E e 77 = .ptr pI 0 ∧ t.get mM = some (mapN M) ∧ t.get pI = some (.iter (some mM) M.length seen M.length) ∧ Own ndC s t (E e 16) acc ∧ seen.Nodup ∧ (∀ i ∈ seen, i < M.length) ∧ acc.map some = seen.map fun i => M[i]?), fun _ _ _ => rfl⟩
        refine lwp_inv I2 (n := M.length) ?_ ?_
        · rw [hI2]
          refine ⟨hK.push _, [], [], by simp, by simp only [E_pne, E_psame, elen_put, Nat.reduceEqDiff, ne_eq, not_false_eq_true, Nat.reduceLT, he], by rw [hpI]; simp only [E_pne, E_psame, elen_put, Nat.reduceEqDiff, ne_eq, not_false_eq_true, Nat.reduceLT, he], ?_, ?_, ?_, by simp, by simp, rfl⟩
          · rw [gt_push lM]; exact gM
          · rw [hpI]; exact St.get_push_new _ _
          · simp only [E_pne, E_psame, elen_put, Nat.reduceEqDiff, ne_eq, not_false_eq_true, Nat.reduceLT, he]; exact .nil _ _ _
        clear e23 e24 e25 e4 e5 he gM gA lM lA
        intro n2 e2 t2 hi2
        rw [hI2] at hi2
        obtain ⟨hK2, seen, acc, hn2, he2, e77, gM2, gI2, hO2, hsd, hsl, hac⟩ := hi2
        have hpI' : s.next ≤ pI := by rw [hpI]; exact hK.next
        have lI2 := lt_of_get gI2
        have lM2 := lt_of_get gM2
        have hMp : mM ≠ pI := by
          intro e
          rw [e, gI2] at gM2
          cases gM2
        simp only [↓wp_seq, ↓wp_reg, ↓st_nxt, aev_t, e77]
        refine next_map gM2 gI2 (fun hall => ?_) (fun i x hx hns => ?_)
        · have hpm := seen_perm hsd hsl hac hall
          have hal : acc.length ≤ lim := by rw [hpm.length_eq]; omega
          have hnd2 : (acc.map Nd.d).Nodup := (hpm.map Nd.d).nodup_iff.2 hnd
          obtain ⟨t3, hsrt, hK3, hO3⟩ := sort_own hK2 hO2 hnd2 hal 57
          have hsm : sortN acc = sortN M := sorted_unique _ _ ((sortN_perm acc).trans (hpm.trans (sortN_perm M).symm)) (sortN_sorted acc hnd2) (sortN_sorted M hnd)
          rw [hsm] at hO3
          simp (config := {contextual := true, maxDischargeDepth := 12}) only [tb, he2, e77, hsrt, ↓bD, bU, forall_const, List.all_cons, List.all_nil, Option.map_some, List.map_cons, List.map_nil, ne_eq, implies_true, isNx, cs_dec, cs_not, cs_and, cs_or, cs_valid, eq_self, ↓wp_cond, ↓wp_loop, ↓reduceIte, reduceCtorEq, Nat.reduceEqDiff, Nat.reduceLT, Nat.reduceAdd, Nat.reduceMul, Int.ofNat_lt, Int.ofNat_le, exists_const, ae_app, ap_slc, Option.map_none, mkR_none, mkR_some, ar_look, ae_mset, ae_rng, ae_mkmap0, ar_ent, lookV_push, lookV_lowed, msetV_push, msetV_lowed, lt_put, same_put, sto_over, sto_lowed, cs_dead, Option.map_some]
          exact ⟨hK3, _, rfl, hO3⟩
        · obtain ⟨t4, ht4⟩ : ∃ t4, t4 = t2.put pI (.iter (some mM) M.length (seen ++ [i]) M.length) := ⟨_, rfl⟩
          rw [← ht4]
          have gM4 : t4.get mM = some (mapN M) := by rw [ht4, St.get_put_ne _ _ lI2 hMp]; exact gM2
          have gI4 : t4.get pI = some (.iter (some mM) M.length (seen ++ [i]) M.length) := by rw [ht4]; exact St.get_put_same gI2
          have hK4 : Keep s t4 := by rw [ht4]; exact hK2.put _ hpI' lI2
          have hO4 : Own ndC s t4 (E e2 16) acc := by
            rcases hO2 with q | ⟨j, q1, q2, q3, q4⟩
            · exact .inl q
            · refine .inr ⟨j, q1, q2, q3, ?_⟩
              have : j ≠ pI := by
                intro e
                rw [e, gI2] at q4
                cases q4
              rw [ht4, St.get_put_ne _ _ lI2 this]
              exact q4
          have lI4 := lt_of_get gI4
          have lM4 := lt_of_get gM4
          have hen := ent_map gM4 gI4 hx
          obtain ⟨u, t5, hap, hK5, hO5⟩ := appV_one (C := ndC) (hK4.lowed.push (.row (Nd.av x) true)) (hO4.lowed.push _) x 48 (by
            have : acc.length = seen.length := by have := congrArg List.length hac; simpa using this
            unfold lim at *
            simp [roomBytes]
            omega)
          have hap : appV ((t4.lowed.push (.row (Nd.av x) true)).push (.row (Nd.av x) true)) 6 48 (E e2 16) (.sl (t4.lowed.push (.row (Nd.av x) true)).next 0 1 (some 1) 6) = some (u, t5) := hap
          simp (config := {contextual := true, maxDischargeDepth := 12}) only [tb, he2, e77, hen, hap, ↓bD, bU, forall_const, List.all_cons, List.all_nil, Option.map_some, List.map_cons, List.map_nil, ne_eq, implies_true, isNx, cs_dec, cs_not, cs_and, cs_or, cs_valid, eq_self, ↓wp_cond, ↓wp_loop, ↓reduceIte, reduceCtorEq, Nat.reduceEqDiff, Nat.reduceLT, Nat.reduceAdd, Nat.reduceMul, Int.ofNat_lt, Int.ofNat_le, exists_const, ae_app, ap_slc, Option.map_none, mkR_none, mkR_some, ar_look, ae_mset, ae_rng, ae_mkmap0, ar_ent, lookV_push, lookV_lowed, msetV_push, msetV_lowed, lt_put, same_put, sto_over, sto_lowed, cs_dead, Option.map_some]
          have hne1 : ∀ o n c z, E e2 16 ≠ .sl mM o n c z := by
            intro o n c z e
            rcases hO4 with ⟨q, _⟩ | ⟨j, q1, q2, q3, q4⟩
            · rw [q] at e; cases e
            · rw [q1] at e
              injection e with e
              rw [e, gM4] at q4
              cases q4
          have hne2 : ∀ o n c z, E e2 16 ≠ .sl pI o n c z := by
            intro o n c z e
            rcases hO4 with ⟨q, _⟩ | ⟨j, q1, q2, q3, q4⟩
            · rw [q] at e; cases e
            · rw [q1] at e
              injection e with e
              rw [e, gI4] at q4
              cases q4
          have hil := getlt hx
          refine ⟨n2 - 1, by
            have := room_left hsd hsl hil hns
            omega, ?_⟩
          rw [hI2]
          refine ⟨hK5, seen ++ [i], acc ++ [x], ?_, by simp only [E_pne, E_psame, elen_put, Nat.reduceEqDiff, ne_eq, not_false_eq_true, Nat.reduceLT, he2], by simp only [E_pne, E_psame, elen_put, Nat.reduceEqDiff, ne_eq, not_false_eq_true, Nat.reduceLT, e77], ?_, ?_, by simp only [E_pne, E_psame, elen_put, Nat.reduceEqDiff, ne_eq, not_false_eq_true, Nat.reduceLT, he2]; exact hO5, ?_, ?_, ?_⟩
          · have := room_left hsd hsl hil hns
            simp
            omega
          · exact appV_frame hap hne1 (get_push_some _ (get_push_some _ gM4))
          · exact appV_frame hap hne2 (get_push_some _ (get_push_some _ gI4))
          · rw [List.nodup_append]
            exact ⟨hsd, by simp, fun a ha b hb e => by simp at hb; subst hb; subst e; exact hns ha⟩
          · intro k hk
            rcases List.mem_append.1 hk with hk | hk
            · exact hsl k hk
            · simp at hk; omega
          · rw [List.map_append, List.map_append, hac]
            simp [hx]

end Go.AM
end
/-
  Clone, Copy, Stain; the statement JoinValid in the abstract machine. Own work of this project; in part printed by a program of it.
-/
section
set_option linter.unusedVariables false
set_option linter.unusedSimpArgs false
set_option maxRecDepth 100000
set_option maxHeartbeats 8000000
namespace Go.AM
open Go Go.Proofs

theorem con_emb {P : Program} {call : Nat → List AV → St → Option (AV × St)} (hS : Sound P call) (hm : P.follows .mixedOrders = true) {g : Nat} {fn : Func} {afn : AFn} (hf : P.funcs[g]? = some fn) (hcal : callable P g = true) (hc : cfn P fn = some afn)
    {c : Con} (h : ∀ args s r s', c args s = some (r, s') → (Grow s s' ∧ Keeps s s') ∧ args.length ≤ afn.ntmps ∧ ∀ env : Env, elen env = afn.ntmps → (∀ i v, args[i]? = some v → E env i = v) →
      awp call afn.body (fun x env t => (∀ i, x ≠ .exit i) ∧ ∃ f, aresults env t afn.results = some (r.ren f) ∧ Emb f s s' t) env s) : SoundAt P g c := by
  refine con_sound hS hm hf hcal hc fun args s r s' hh => ?_
  obtain ⟨hg, hl, k⟩ := h args s r s' hh
  exact ⟨hg, start_env hl fun env h1 h2 => k env h1 h2⟩
/-- A row of plain cells of its own. -/
theorem emb_row {s t : St} (h : Keep s t) {cells : List AV} (hp : cells.all AV.plain = true) {j : Nat} (h1 : s.next ≤ j) (hj : t.get j = some (.row cells true)) : ∃ f : Nat → Nat, (∀ id, id < s.next → f id = id) ∧ Emb f s (s.lowed.push (.row cells true)) t ∧ f s.next = j := by
  have hn := h.next
  have hlow := h.low
  have hlt := St.get_lt hj
  have e2 : ∀ id, (s.lowed.push (.row cells true)).get id = if id = s.next then some (.row cells true) else s.get id := fun id => by rw [St.get_push]; rfl
  refine ⟨fun id => if id < s.next then id else if id = s.next then j else t.next + id, fun id hid => by simp [hid], ⟨by simp [lowed_next], ?_, fun id hid => by simp [hid], fun id hid => ?_, fun i k h1 h2 e => ?_, fun id b hb => ?_, fun id h1 h2 => ?_⟩, by simp⟩
  · exact hlow
  · simp only [St.next_push, lowed_next] at hid
    rw [if_neg (by omega), if_neg (by omega)]
    omega
  · simp only [St.next_push, lowed_next] at h1 h2
    by_cases a1 : i < s.next
    · by_cases a2 : k < s.next
      · rw [if_pos a1, if_pos a2] at e; exact e
      · rw [if_pos a1, if_neg a2, if_pos (by omega)] at e; omega
    · by_cases a2 : k < s.next
      · rw [if_neg a1, if_pos a2, if_pos (by omega)] at e; omega
      · omega
  · rw [e2] at hb
    split at hb
    · rename_i hid
      injection hb with hb
      subst hb
      refine .inr (.inl ?_)
      rw [if_neg (by omega), if_pos hid, hj, AB.ren, plains_rens _ hp]
    · have hid := St.get_lt hb
      exact .inr (.inr ⟨hid, hb, h.blk hb⟩)
  · rw [e2, if_neg (by omega)]
/-- What Clone answers. -/
def cloneC : Con := fun xs s => match xs with
  | [.nils] => some (.nils, s.lowed)
  | [.sl id off n cap z] => match read ndC s (.sl id off n cap z) with
    | some l => if l.length ≤ lim then
        if l.isEmpty then some (.sl s.next 0 0 (some 0) 6, s.lowed.push (.row [] true))
        else some (.sl s.next 0 l.length none 6, s.lowed.push (.row (ndC.cells l) true))
      else none
    | none => none
  | _ => none
theorem push_row_get (s : St) (b : AB) : (s.lowed.push b).get s.next = some b := St.get_push_new s.lowed b
theorem s_clone : SoundAt Try.prog 48 cloneC :=
  con_emb (tb_sound (l := []) (by simp)) mixed Try.func48 k48 c48 fun args s r s' h => by
    unfold cloneC at h
    split at h
    · injection h with h
      obtain ⟨rfl, rfl⟩ := Prod.mk.inj h
      refine ⟨gk_lowed s, by simp [a48], fun env hlen ha => ?_⟩
      have h0 : E env 0 = _ := ha 0 _ rfl
      simp only [a48] at hlen
      unfold a48
      try dsimp only [oO, oG]
      have hb : binOp .eql .ns .nils .nils = some (.bool true) := rfl
      simp (config := {contextual := true, maxDischargeDepth := 12}) only [tb, h0, hlen, hb, ↓bD, bU, forall_const, List.all_cons, List.all_nil, Option.map_some, List.map_cons, List.map_nil, ne_eq, implies_true, isNx, cs_dec, cs_not, cs_and, cs_or, cs_valid, eq_self, ↓wp_cond, ↓wp_loop, ↓reduceIte, reduceCtorEq, Nat.reduceEqDiff, Nat.reduceLT, Nat.reduceAdd, Nat.reduceMul, Int.ofNat_lt, Int.ofNat_le, exists_const, ae_app, ap_slc, Option.map_none, mkR_none, mkR_some, ar_look, ae_mset, ae_rng, ae_mkmap0, ar_ent, lookV_push, lookV_lowed, msetV_push, msetV_lowed, lt_put, same_put, sto_over, sto_lowed, cs_dead, Option.map_some]
      obtain ⟨f, h1, h2⟩ := emb_keep (Keep.refl s)
      exact ⟨f, by simp [AV.ren], h2⟩
    · rename_i id off n cap z
      split at h
      · rename_i l hr
        split at h
        · rename_i hl
          have hb : binOp .eql .ns (.sl id off n cap z) .nils = some (.bool false) := rfl
          have hbs : ∀ (env : Env), aalloc env (.bsl [] 0 6 []) = some (fun id => .sl id 0 0 (some 0) 6, .row [] true) := fun _ => nrfl rfl
          split at h
          · rename_i he
            have hl0 : l = [] := by simpa using he
            subst hl0
            injection h with h
            obtain ⟨rfl, rfl⟩ := Prod.mk.inj h
            refine ⟨gk_push (gk_lowed s) _, by simp [a48], fun env hlen ha => ?_⟩
            have h0 : E env 0 = _ := ha 0 _ rfl
            simp only [a48] at hlen
            unfold a48
            try dsimp only [oO, oG]
            have hap : appV (s.push (.row [] true)) 6 48 (.sl s.next 0 0 (some 0) 6) (.sl id off n cap z) = some (.sl s.next 0 0 (some 0) 6, s.push (.row [] true)) := by
              have hr2 : read ndC (s.push (.row [] true)) (.sl id off n cap z) = some [] := ((Keep.refl s).push _).read hr
              have e1 : shown (s.push (.row [] true)) 6 (.sl id off n cap z) = some [] := read_shown hr2
              have e2 : lenOf (.sl id off n cap z) = some 0 := read_len hr2
              simp only [appV, e1, e2, aappend, if_true, St.get_push_new]
            simp (config := {contextual := true, maxDischargeDepth := 12}) only [tb, h0, hlen, hb, hbs, hap, ↓bD, bU, forall_const, List.all_cons, List.all_nil, Option.map_some, List.map_cons, List.map_nil, ne_eq, implies_true, isNx, cs_dec, cs_not, cs_and, cs_or, cs_valid, eq_self, ↓wp_cond, ↓wp_loop, ↓reduceIte, reduceCtorEq, Nat.reduceEqDiff, Nat.reduceLT, Nat.reduceAdd, Nat.reduceMul, Int.ofNat_lt, Int.ofNat_le, exists_const, ae_app, ap_slc, Option.map_none, mkR_none, mkR_some, ar_look, ae_mset, ae_rng, ae_mkmap0, ar_ent, lookV_push, lookV_lowed, msetV_push, msetV_lowed, lt_put, same_put, sto_over, sto_lowed, cs_dead, Option.map_some]
            obtain ⟨f, h1, h2, h3⟩ := emb_row ((Keep.refl s).push (.row [] true)) (cells := []) rfl (Nat.le_refl _) (St.get_push_new _ _)
            exact ⟨f, by simp [AV.ren, h3], h2⟩
          · rename_i he
            have hl0 : l ≠ [] := by simpa using he
            injection h with h
            obtain ⟨rfl, rfl⟩ := Prod.mk.inj h
            refine ⟨gk_push (gk_lowed s) _, by simp [a48], fun env hlen ha => ?_⟩
            have h0 : E env 0 = _ := ha 0 _ rfl
            simp only [a48] at hlen
            unfold a48
            try dsimp only [oO, oG]
            have hap : appV (s.push (.row [] true)) 6 48 (.sl s.next 0 0 (some 0) 6) (.sl id off n cap z) = some (.sl (s.push (.row [] true)).next 0 l.length none 6, (s.push (.row [] true)).push (.row (ndC.cells l) true)) := by
              have hr2 : read ndC (s.push (.row [] true)) (.sl id off n cap z) = some l := ((Keep.refl s).push _).read hr
              have e1 : shown (s.push (.row [] true)) 6 (.sl id off n cap z) = some (ndC.cells l) := read_shown hr2
              have e2 : lenOf (.sl id off n cap z) = some l.length := read_len hr2
              have e3 : l.length ≠ 0 := by simpa using hl0
              simp only [appV, e1, e2, aappend, if_true, St.get_push_new, if_neg e3]
              rw [if_pos ⟨by simp, by unfold lim at hl; simp [roomBytes]; omega⟩, if_neg (by omega)]
              simp
            simp (config := {contextual := true, maxDischargeDepth := 12}) only [tb, h0, hlen, hb, hbs, hap, ↓bD, bU, forall_const, List.all_cons, List.all_nil, Option.map_some, List.map_cons, List.map_nil, ne_eq, implies_true, isNx, cs_dec, cs_not, cs_and, cs_or, cs_valid, eq_self, ↓wp_cond, ↓wp_loop, ↓reduceIte, reduceCtorEq, Nat.reduceEqDiff, Nat.reduceLT, Nat.reduceAdd, Nat.reduceMul, Int.ofNat_lt, Int.ofNat_le, exists_const, ae_app, ap_slc, Option.map_none, mkR_none, mkR_some, ar_look, ae_mset, ae_rng, ae_mkmap0, ar_ent, lookV_push, lookV_lowed, msetV_push, msetV_lowed, lt_put, same_put, sto_over, sto_lowed, cs_dead, Option.map_some]
            obtain ⟨f, h1, h2, h3⟩ := emb_row (((Keep.refl s).push (.row [] true)).push (.row (ndC.cells l) true)) (cells_plain ndC l) (j := (s.push (.row [] true)).next) (by simp) (St.get_push_new _ _)
            exact ⟨f, by simp [AV.ren, h3], h2⟩
        · cases h
      · cases h
    · cases h
theorem acall_clone {s : St} {v : AV} {l : List Nd} (hr : read ndC s v = some l) (hl : l.length ≤ lim) :
    (v = .nils ∧ acall cloneC false [v] s = some (.nils, s)) ∨ (∃ id off n cap z, v = .sl id off n cap z) ∧ (l = [] ∧ acall cloneC false [v] s = some (.sl s.next 0 0 (some 0) 6, s.lowed.push (.row [] true)) ∨ l ≠ [] ∧ acall cloneC false [v] s = some (.sl s.next 0 l.length none 6, s.lowed.push (.row (ndC.cells l) true))) := by
  cases v with
  | nils => exact .inl ⟨rfl, acall_rol rfl rfl⟩
  | sl id off n cap z =>
    refine .inr ⟨⟨id, off, n, cap, z, rfl⟩, ?_⟩
    have hr' : read ndC { heap := s.heap, next := s.next, low := s.next } (.sl id off n cap z) = some l := hr
    by_cases h0 : l = []
    · subst h0
      refine .inl ⟨rfl, ?_⟩
      simp [acall, cloneC, hr', AV.ground, AV.plain, St.push, St.lowed]
    · have he : l.isEmpty = false := by simpa using h0
      refine .inr ⟨h0, ?_⟩
      simp [acall, cloneC, hr', hl, h0, AV.ground, AV.plain, St.push, St.lowed]
  | _ => simp [read] at hr
theorem s_jcopy : SoundAt Try.prog 37 cloneC :=
  con_emb (tb_sound (l := [(48, cloneC)]) (by simpa using s_clone)) mixed Try.func37 k37 c37 fun args s r s' h => by
    unfold cloneC at h
    split at h
    · injection h with h
      obtain ⟨rfl, rfl⟩ := Prod.mk.inj h
      refine ⟨gk_lowed s, by simp [a37], fun env hlen ha => ?_⟩
      have h0 : E env 0 = _ := ha 0 _ rfl
      simp only [a37] at hlen
      unfold a37
      try dsimp only [oO, oG]
      have hc : acall cloneC false [.nils] s = some (.nils, s) := acall_rol rfl rfl
      simp (config := {contextual := true, maxDischargeDepth := 12}) only [tb, h0, hlen, hc, ↓bD, bU, forall_const, List.all_cons, List.all_nil, Option.map_some, List.map_cons, List.map_nil, ne_eq, implies_true, isNx, cs_dec, cs_not, cs_and, cs_or, cs_valid, eq_self, ↓wp_cond, ↓wp_loop, ↓reduceIte, reduceCtorEq, Nat.reduceEqDiff, Nat.reduceLT, Nat.reduceAdd, Nat.reduceMul, Int.ofNat_lt, Int.ofNat_le, exists_const, ae_app, ap_slc, Option.map_none, mkR_none, mkR_some, ar_look, ae_mset, ae_rng, ae_mkmap0, ar_ent, lookV_push, lookV_lowed, msetV_push, msetV_lowed, lt_put, same_put, sto_over, sto_lowed, cs_dead, Option.map_some]
      obtain ⟨f, h1, h2⟩ := emb_keep (Keep.refl s)
      exact ⟨f, by simp [AV.ren], h2⟩
    · rename_i id off n cap z
      split at h
      · rename_i l hr
        split at h
        · rename_i hl
          rcases acall_clone hr hl with ⟨q, _⟩ | ⟨_, ⟨h0, hc⟩ | ⟨h0, hc⟩⟩
          · cases q
          · subst h0
            simp only [List.isEmpty_nil, if_true] at h
            injection h with h
            obtain ⟨rfl, rfl⟩ := Prod.mk.inj h
            refine ⟨gk_push (gk_lowed s) _, by simp [a37], fun env hlen ha => ?_⟩
            have h0 : E env 0 = _ := ha 0 _ rfl
            simp only [a37] at hlen
            unfold a37
            try dsimp only [oO, oG]
            simp (config := {contextual := true, maxDischargeDepth := 12}) only [tb, h0, hlen, hc, ↓bD, bU, forall_const, List.all_cons, List.all_nil, Option.map_some, List.map_cons, List.map_nil, ne_eq, implies_true, isNx, cs_dec, cs_not, cs_and, cs_or, cs_valid, eq_self, ↓wp_cond, ↓wp_loop, ↓reduceIte, reduceCtorEq, Nat.reduceEqDiff, Nat.reduceLT, Nat.reduceAdd, Nat.reduceMul, Int.ofNat_lt, Int.ofNat_le, exists_const, ae_app, ap_slc, Option.map_none, mkR_none, mkR_some, ar_look, ae_mset, ae_rng, ae_mkmap0, ar_ent, lookV_push, lookV_lowed, msetV_push, msetV_lowed, lt_put, same_put, sto_over, sto_lowed, cs_dead, Option.map_some]
            exact ⟨_root_.id, by rw [AV.ren_id], Emb.refl ((keep_lowed s).push _).grow⟩
          · have he : l.isEmpty = false := by simpa using h0
            simp only [he, Bool.false_eq_true, if_false] at h
            injection h with h
            obtain ⟨rfl, rfl⟩ := Prod.mk.inj h
            refine ⟨gk_push (gk_lowed s) _, by simp [a37], fun env hlen ha => ?_⟩
            have h0 : E env 0 = _ := ha 0 _ rfl
            simp only [a37] at hlen
            unfold a37
            try dsimp only [oO, oG]
            simp (config := {contextual := true, maxDischargeDepth := 12}) only [tb, h0, hlen, hc, ↓bD, bU, forall_const, List.all_cons, List.all_nil, Option.map_some, List.map_cons, List.map_nil, ne_eq, implies_true, isNx, cs_dec, cs_not, cs_and, cs_or, cs_valid, eq_self, ↓wp_cond, ↓wp_loop, ↓reduceIte, reduceCtorEq, Nat.reduceEqDiff, Nat.reduceLT, Nat.reduceAdd, Nat.reduceMul, Int.ofNat_lt, Int.ofNat_le, exists_const, ae_app, ap_slc, Option.map_none, mkR_none, mkR_some, ar_look, ae_mset, ae_rng, ae_mkmap0, ar_ent, lookV_push, lookV_lowed, msetV_push, msetV_lowed, lt_put, same_put, sto_over, sto_lowed, cs_dead, Option.map_some]
            exact ⟨_root_.id, by rw [AV.ren_id], Emb.refl ((keep_lowed s).push _).grow⟩
        · cases h
      · cases h
    · cases h

/-! ### Stain -/
def stainN (x : Nd) : Nd := { x with t := IntKind.i64.wrap (x.t + 1), x := 88 }
theorem setAt_set {cs : List AV} {o : Nat} {v : AV} (h : o < cs.length) : setAt cs o [v] = cs.set o v := by
  simp only [setAt, List.length_singleton]
  rw [List.set_eq_take_append_cons_drop, if_pos h]
  simp
theorem cells_set {l : List Nd} {i k : Nat} {x y : Nd} {v : AV} (hx : l[i]? = some x) (hk : k < 6) (hy : Nd.av y = (Nd.av x).set k v) : (ndC.cells l).set (i * 6 + k) v = ndC.cells (l.set i y) := by
  have hil := getlt hx
  have hcl : (ndC.cells l).length = l.length * 6 := cells_len ndC l
  apply List.ext_getElem?
  intro t
  rw [List.getElem?_set, cells_get, cells_get, List.getElem?_set]
  by_cases ht : i * 6 + k = t
  · subst ht
    have e1 : (i * 6 + k) / 6 = i := by omega
    have e2 : (i * 6 + k) % 6 = k := by omega
    have h6 : (Nd.av x).length = 6 := rfl
    rw [if_pos rfl, if_pos (by rw [hcl]; omega), e1, e2, if_pos rfl, if_pos hil, Option.bind_some, hy, List.getElem?_set_self (by omega)]
  · rw [if_neg ht]
    by_cases hti : i = t / 6
    · subst hti
      have hne : k ≠ t % 6 := by omega
      rw [if_pos rfl, if_pos hil, hx, Option.bind_some, Option.bind_some, hy, List.getElem?_set_ne hne]
    · rw [if_neg hti]
theorem put_put (s : St) (j : Nat) (a b : AB) : (s.put j a).put j b = s.put j b := by
  simp only [St.put, List.set_set]
  congr 1
  omega
theorem sto_field {t : St} {j i k : Nat} {l : List Nd} {x y : Nd} {v : AV} (hg : t.get j = some (.row (ndC.cells l) true)) (hx : l[i]? = some x) (hk : k < 6) (hy : Nd.av y = (Nd.av x).set k v) (hv : v.one = true) (hc : v.cells = [v]) :
    sto t 1 (.ptr j (i * 6 + k)) v = some (.und, t.put j (.row (ndC.cells (l.set i y)) true)) := by
  have hil := getlt hx
  have hcl : (ndC.cells l).length = l.length * 6 := cells_len ndC l
  simp only [sto, hg, hc, List.length_singleton, List.all_cons, hv, List.all_nil, Bool.and_self, true_and]
  rw [if_pos (by omega), setAt_set (by omega), cells_set hx hk hy]
def stainC : Con := fun xs s => match xs with
  | [.nils] => some (.tup [], s.lowed)
  | [.sl j 0 n cap 6] => if n = 0 then some (.tup [], s.lowed) else match s.get j with
    | some (.row cs true) => match decL ndC n cs with
      | some l => if cs.length = n * 6 ∧ n ≤ lim then some (.tup [], s.put j (.row (ndC.cells (l.map stainN)) true)) else none
      | none => none
    | _ => none
  | _ => none
def stainTo (i : Nat) (l : List Nd) : List Nd := (l.take i).map stainN ++ l.drop i
theorem stainTo_at {l : List Nd} {i : Nat} {x : Nd} (hx : l[i]? = some x) : (stainTo i l)[i]? = some x := by
  have hil := getlt hx
  have h : ((l.take i).map stainN).length = i := by simp; omega
  unfold stainTo
  rw [List.getElem?_append_right (by omega), h, Nat.sub_self, List.getElem?_drop]
  simpa using hx
theorem stainTo_succ {l : List Nd} {i : Nat} {x : Nd} (hx : l[i]? = some x) : (stainTo i l).set i (stainN x) = stainTo (i + 1) l := by
  have hil := getlt hx
  have h : ((l.take i).map stainN).length = i := by simp; omega
  unfold stainTo
  have hd : l.drop i = x :: l.drop (i + 1) := by
    rw [List.drop_eq_getElem_cons hil]
    congr 1
    exact (List.getElem?_eq_some_iff.1 hx).2
  rw [hd, take_snoc hx, List.set_append_right _ _ (by omega), h, Nat.sub_self]
  simp
theorem s_stain : SoundAt Try.prog 28 stainC :=
  con_emb (tb_sound (l := []) (by simp)) mixed Try.func28 k28 c28 fun args s r s' h => by
    have none : ∀ (v : AV), lenV v = some (.int .i64 0) → args = [v] → r = .tup [] → s' = s.lowed → (Grow s s' ∧ Keeps s s') ∧ args.length ≤ a28.ntmps ∧ ∀ env : Env, elen env = a28.ntmps → (∀ i v, args[i]? = some v → E env i = v) →
        awp (tb []) a28.body (fun x env t => (∀ i, x ≠ .exit i) ∧ ∃ f, aresults env t a28.results = some (r.ren f) ∧ Emb f s s' t) env s := by
      rintro v hL rfl rfl rfl
      refine ⟨gk_lowed s, by simp [a28], fun env hlen ha => ?_⟩
      have h0 : E env 0 = _ := ha 0 _ rfl
      simp only [a28] at hlen
      unfold a28
      try dsimp only [oO, oG]
      simp (config := {contextual := true, maxDischargeDepth := 12}) only [tb, h0, hlen, ↓bD, bU, forall_const, List.all_cons, List.all_nil, Option.map_some, List.map_cons, List.map_nil, ne_eq, implies_true, isNx, cs_dec, cs_not, cs_and, cs_or, cs_valid, eq_self, ↓wp_cond, ↓wp_loop, ↓reduceIte, reduceCtorEq, Nat.reduceEqDiff, Nat.reduceLT, Nat.reduceAdd, Nat.reduceMul, Int.ofNat_lt, Int.ofNat_le, exists_const, ae_app, ap_slc, Option.map_none, mkR_none, mkR_some, ar_look, ae_mset, ae_rng, ae_mkmap0, ar_ent, lookV_push, lookV_lowed, msetV_push, msetV_lowed, lt_put, same_put, sto_over, sto_lowed, cs_dead, Option.map_some]
      refine lwp_inv (fun n e t => t = s ∧ elen e = 21 ∧ E e 0 = v ∧ E e 2 = .int .i64 0) (n := 0) ⟨rfl, by simp only [E_pne, E_psame, elen_put, Nat.reduceEqDiff, ne_eq, not_false_eq_true, Nat.reduceLT, hlen], by simp only [E_pne, E_psame, elen_put, Nat.reduceEqDiff, ne_eq, not_false_eq_true, Nat.reduceLT, h0], by simp only [E_pne, E_psame, elen_put, Nat.reduceEqDiff, ne_eq, not_false_eq_true, Nat.reduceLT, hlen]⟩ ?_
      rintro n e t ⟨rfl, he, e0, e2⟩
      have hz : ((0 : Int) < 0) = False := by decide
      simp (config := {contextual := true, maxDischargeDepth := 12}) only [tb, e0, e2, he, hL, hz, ↓bD, bU, forall_const, List.all_cons, List.all_nil, Option.map_some, List.map_cons, List.map_nil, ne_eq, implies_true, isNx, cs_dec, cs_not, cs_and, cs_or, cs_valid, eq_self, ↓wp_cond, ↓wp_loop, ↓reduceIte, reduceCtorEq, Nat.reduceEqDiff, Nat.reduceLT, Nat.reduceAdd, Nat.reduceMul, Int.ofNat_lt, Int.ofNat_le, exists_const, ae_app, ap_slc, Option.map_none, mkR_none, mkR_some, ar_look, ae_mset, ae_rng, ae_mkmap0, ar_ent, lookV_push, lookV_lowed, msetV_push, msetV_lowed, lt_put, same_put, sto_over, sto_lowed, cs_dead, Option.map_some]
      obtain ⟨f, h1, h2⟩ := emb_keep (Keep.refl t)
      exact ⟨f, by simp [AV.ren, AV.rens], h2⟩
    unfold stainC at h
    split at h
    · injection h with h
      obtain ⟨rfl, rfl⟩ := Prod.mk.inj h
      exact none .nils rfl rfl rfl rfl
    · rename_i j n cap
      split at h
      · rename_i hn
        subst hn
        injection h with h
        obtain ⟨rfl, rfl⟩ := Prod.mk.inj h
        exact none _ rfl rfl rfl rfl
      · rename_i hn
        split at h
        · rename_i cs hg
          split at h
          · rename_i l hd
            split at h
            · rename_i hc
              obtain ⟨hc1, hlim⟩ := hc
              injection h with h
              obtain ⟨rfl, rfl⟩ := Prod.mk.inj h
              obtain ⟨d1, d2, d3⟩ := decL_some hd
              have hcs : cs = ndC.cells l := by rw [← d3, show n * ndC.sz = cs.length from hc1.symm]; simp
              subst hcs
              subst d1
              refine ⟨⟨grow_put _ hg, keeps_put _ hg⟩, by simp [a28], fun env hlen ha => ?_⟩
              have h0 : E env 0 = _ := ha 0 _ rfl
              simp only [a28] at hlen
              unfold a28
              try dsimp only [oO, oG]
              simp (config := {contextual := true, maxDischargeDepth := 12}) only [tb, h0, hlen, ↓bD, bU, forall_const, List.all_cons, List.all_nil, Option.map_some, List.map_cons, List.map_nil, ne_eq, implies_true, isNx, cs_dec, cs_not, cs_and, cs_or, cs_valid, eq_self, ↓wp_cond, ↓wp_loop, ↓reduceIte, reduceCtorEq, Nat.reduceEqDiff, Nat.reduceLT, Nat.reduceAdd, Nat.reduceMul, Int.ofNat_lt, Int.ofNat_le, exists_const, ae_app, ap_slc, Option.map_none, mkR_none, mkR_some, ar_look, ae_mset, ae_rng, ae_mkmap0, ar_ent, lookV_push, lookV_lowed, msetV_push, msetV_lowed, lt_put, same_put, sto_over, sto_lowed, cs_dead, Option.map_some]
              obtain ⟨I, hI⟩ : ∃ I : Nat → Env → St → Prop, ∀ n e t, I n e t = (∃ i : Nat, n + i = l.length ∧ elen e = 21 ∧ E e 0 = .sl j 0 l.length cap 6 ∧ E e 2 = .int .i64 (i : Int) ∧ t.get j = some (.row (ndC.cells (stainTo i l)) true) ∧ (i = 0 ∧ t = s ∨ 0 < i ∧ t = s.put j (.row (ndC.cells (stainTo i l)) true))) := ⟨fun n e t => (∃ i : Nat, n + i = l.length ∧ elen e = 21 ∧ E e 0 = .sl j 0 l.length cap 6 ∧ E e 2 = .int .i64 (i : Int) ∧ t.get j = some (.row (ndC.cells (stainTo i l)) true) ∧ (i = 0 ∧ t = s ∨ 0 < i ∧ t = s.put j (.row (ndC.cells (stainTo i l)) true))), fun _ _ _ => rfl⟩
              refine lwp_inv I (n := l.length) ?_ ?_
              · rw [hI]
                exact ⟨0, by omega, by simp only [E_pne, E_psame, elen_put, Nat.reduceEqDiff, ne_eq, not_false_eq_true, Nat.reduceLT, hlen], by simp only [E_pne, E_psame, elen_put, Nat.reduceEqDiff, ne_eq, not_false_eq_true, Nat.reduceLT, h0], by simp only [E_pne, E_psame, elen_put, Nat.reduceEqDiff, ne_eq, not_false_eq_true, Nat.reduceLT, hlen]; rfl, by simpa [stainTo] using hg, .inl ⟨rfl, rfl⟩⟩
              intro n e t hi
              rw [hI] at hi
              obtain ⟨i, hni, he, e0, e2, gj, ht⟩ := hi
              have hL : lenV (.sl j 0 l.length cap 6) = some (.int .i64 (l.length : Int)) := rfl
              by_cases hlt : i < l.length
              · obtain ⟨x, hx⟩ := getsome hlt
                have hw2 := wrap_add1 (n := i) (by unfold lim at hlim; omega)
                have i1 : iadV 6 (.sl j 0 l.length cap 6) (.int .i64 (i : Int)) = some (.ptr j (i * 6)) := by
                  have := iadV_nat (sz := 6) (id := j) (off := 0) (cap := cap) (k := .i64) hlt
                  rwa [Nat.zero_add] at this
                have hsx := stainTo_at hx
                have hl1 : lod1 t (.ptr j (i * 6 + 4)) = some (.int .i64 x.t) := by
                  simp only [lod1, gj]
                  rw [cells_get, show (i * 6 + 4) / 6 = i by omega, show (i * 6 + 4) % 6 = 4 by omega, hsx]
                  rfl
                have s1 := sto_field (y := { x with t := IntKind.i64.wrap (x.t + 1) }) (v := .int .i64 (IntKind.i64.wrap (x.t + 1))) gj hsx (k := 4) (by omega) rfl rfl rfl
                obtain ⟨t1, ht1⟩ : ∃ t1, t1 = t.put j (.row (ndC.cells ((stainTo i l).set i { x with t := IntKind.i64.wrap (x.t + 1) })) true) := ⟨_, rfl⟩
                rw [← ht1] at s1
                have g1 : t1.get j = some (.row (ndC.cells ((stainTo i l).set i { x with t := IntKind.i64.wrap (x.t + 1) })) true) := by rw [ht1]; exact St.get_put_same gj
                have hsx1 : ((stainTo i l).set i { x with t := IntKind.i64.wrap (x.t + 1) })[i]? = some { x with t := IntKind.i64.wrap (x.t + 1) } := List.getElem?_set_self (getlt hsx)
                have s2 := sto_field (y := stainN x) (v := .int .i32 88) g1 hsx1 (k := 5) (by omega) rfl rfl rfl
                rw [List.set_set, stainTo_succ hx] at s2
                obtain ⟨t2, ht2⟩ : ∃ t2, t2 = t1.put j (.row (ndC.cells (stainTo (i + 1) l)) true) := ⟨_, rfl⟩
                rw [← ht2] at s2
                simp (config := {contextual := true, maxDischargeDepth := 12}) only [tb, e0, e2, he, hL, hlt, hw2, i1, hl1, s1, s2, ↓bD, bU, forall_const, List.all_cons, List.all_nil, Option.map_some, List.map_cons, List.map_nil, ne_eq, implies_true, isNx, cs_dec, cs_not, cs_and, cs_or, cs_valid, eq_self, ↓wp_cond, ↓wp_loop, ↓reduceIte, reduceCtorEq, Nat.reduceEqDiff, Nat.reduceLT, Nat.reduceAdd, Nat.reduceMul, Int.ofNat_lt, Int.ofNat_le, exists_const, ae_app, ap_slc, Option.map_none, mkR_none, mkR_some, ar_look, ae_mset, ae_rng, ae_mkmap0, ar_ent, lookV_push, lookV_lowed, msetV_push, msetV_lowed, lt_put, same_put, sto_over, sto_lowed, cs_dead, Option.map_some]
                refine ⟨n - 1, by omega, ?_⟩
                rw [hI]
                refine ⟨i + 1, by omega, by simp only [E_pne, E_psame, elen_put, Nat.reduceEqDiff, ne_eq, not_false_eq_true, Nat.reduceLT, he], by simp only [E_pne, E_psame, elen_put, Nat.reduceEqDiff, ne_eq, not_false_eq_true, Nat.reduceLT, e0], by simp only [E_pne, E_psame, elen_put, Nat.reduceEqDiff, ne_eq, not_false_eq_true, Nat.reduceLT, he], by rw [ht2]; exact St.get_put_same g1, .inr ⟨by omega, ?_⟩⟩
                rw [ht2, ht1, put_put]
                rcases ht with ⟨_, rfl⟩ | ⟨_, rfl⟩
                · rfl
                · rw [put_put]
              · obtain rfl : i = l.length := by omega
                rcases ht with ⟨q, _⟩ | ⟨_, rfl⟩
                · omega
                simp (config := {contextual := true, maxDischargeDepth := 12}) only [tb, e0, e2, he, hL, hlt, ↓bD, bU, forall_const, List.all_cons, List.all_nil, Option.map_some, List.map_cons, List.map_nil, ne_eq, implies_true, isNx, cs_dec, cs_not, cs_and, cs_or, cs_valid, eq_self, ↓wp_cond, ↓wp_loop, ↓reduceIte, reduceCtorEq, Nat.reduceEqDiff, Nat.reduceLT, Nat.reduceAdd, Nat.reduceMul, Int.ofNat_lt, Int.ofNat_le, exists_const, ae_app, ap_slc, Option.map_none, mkR_none, mkR_some, ar_look, ae_mset, ae_rng, ae_mkmap0, ar_ent, lookV_push, lookV_lowed, msetV_push, msetV_lowed, lt_put, same_put, sto_over, sto_lowed, cs_dead, Option.map_some]
                have e1 : stainTo l.length l = l.map stainN := by simp [stainTo]
                rw [e1]
                exact ⟨_root_.id, by simp [AV.ren, AV.rens], Emb.refl (grow_put _ hg)⟩
            · cases h
          · cases h
        · cases h
    · cases h

end Go.AM
end
/-
  The reference's Agree, put, Join; the program's Agree and Within; the helpers of the statements. Own work of this project; in part printed by a program of it.
-/
section
set_option linter.unusedVariables false
set_option linter.unusedSimpArgs false
set_option maxRecDepth 100000
set_option maxHeartbeats 8000000
namespace Go.AM
open Go Go.Proofs

theorem q_known (cl : Bool) (s : St) : acall (closed [] (.bool true)) cl [] s = some (.bool true, s) := acall_ro (by simp [closed]) rfl
theorem cs_true (A B : Prop) : cstep (.bool (decide True)) A B = A := by simp [cstep]

theorem cs_false (A B : Prop) : cstep (.bool (decide False)) A B = B := by simp [cstep]
theorem cs_ref (a b : Bool) (A B : Prop) : cstep (.bool (a && b)) A B = ((a = true ∧ b = true → A) ∧ ((a && b) = false → B)) := cs_and a b A B
theorem findL_look (l : List Nd) (d : Dot) : findL l d = match lookN l d with
    | some (j, _) => (j : Int)
    | none => -1 := by
  induction l with
  | nil => rfl
  | cons x r ih =>
    simp only [findL, lookN]
    by_cases h : x.d = d
    · simp [h]
    · simp only [h, if_false]
      rw [ih]
      cases hr : lookN r d with
      | none => simp
      | some p =>
        obtain ⟨j, y⟩ := p
        simp only [Option.map_some]
        rw [if_neg (by omega)]
        simp
def agreeL (l m : List Nd) : Bool := l.all fun x => match lookN m x.d with
  | some (_, y) => !x.clash y
  | none => true
theorem agreeL_cons (x : Nd) (l m : List Nd) : agreeL (x :: l) m = ((match lookN m x.d with
  | some (_, y) => !x.clash y
  | none => true) && agreeL l m) := rfl
def fAgree (l m : List Nd) : AV := .bool (agreeL l m)
theorem s_RAgree : SoundAt Try.prog 32 (conLL ndC ndC fAgree) :=
  con_keep (tb_sound (l := [(44, conLD ndC fFind), (45, conNN fRefMerge)]) (by simpa using ⟨s_Find, s_RefMerge⟩)) mixed Try.func32 k32 c32 fun args s r s' h => by
    obtain ⟨v, w, l, m, rfl, hr, hw, hl, hm, rfl, rfl⟩ := conLL_some h
    refine ⟨rfl, rfl, by simp [a32], fun env hlen ha => ?_⟩
    have h0 : E env 0 = _ := ha 0 _ rfl
    have h1 : E env 1 = _ := ha 1 _ rfl
    have hlen : elen env = _ := hlen
    simp only [a32] at hlen
    unfold a32
    try dsimp only [oO, oG]
    have hL := lenV_read hr
    simp (config := {contextual := true, maxDischargeDepth := 12}) only [tb, h0, h1, hlen, hL, ↓bD, bU, forall_const, List.all_cons, List.all_nil, Option.map_some, List.map_cons, List.map_nil, ne_eq, implies_true, isNx, cs_dec, cs_not, cs_and, cs_or, cs_valid, eq_self, ↓wp_cond, ↓wp_loop, ↓reduceIte, reduceCtorEq, Nat.reduceEqDiff, Nat.reduceLT, Nat.reduceAdd, Nat.reduceMul, Int.ofNat_lt, Int.ofNat_le, exists_const, ae_app, ap_slc, Option.map_none, mkR_none, mkR_some, ar_look, ae_mset, ae_rng, ae_mkmap0, ar_ent, lookV_push, lookV_lowed, msetV_push, msetV_lowed, lt_put, same_put, sto_over, sto_lowed, cs_dead, Option.map_some, beq_self_eq_true, decide_true, cs_true, cs_false]
    obtain ⟨I, hI⟩ : ∃ I : Nat → Env → St → Prop, ∀ n e t, I n e t = (Keep s t ∧ ∃ i : Nat, n + i = l.length ∧ elen e = 38 ∧ E e 0 = v ∧ E e 1 = w ∧ E e 5 = .int .i64 (i : Int) ∧ (agreeL (l.drop i) m = agreeL l m)) := ⟨fun n e t => (Keep s t ∧ ∃ i : Nat, n + i = l.length ∧ elen e = 38 ∧ E e 0 = v ∧ E e 1 = w ∧ E e 5 = .int .i64 (i : Int) ∧ (agreeL (l.drop i) m = agreeL l m)), fun _ _ _ => rfl⟩
    refine lwp_inv I (n := l.length) ?_ ?_
    · rw [hI]
      exact ⟨.refl s, 0, by omega, by simp only [E_pne, E_psame, elen_put, Nat.reduceEqDiff, ne_eq, not_false_eq_true, Nat.reduceLT, hlen], by simp only [E_pne, E_psame, elen_put, Nat.reduceEqDiff, ne_eq, not_false_eq_true, Nat.reduceLT, h0], by simp only [E_pne, E_psame, elen_put, Nat.reduceEqDiff, ne_eq, not_false_eq_true, Nat.reduceLT, h1], by simp only [E_pne, E_psame, elen_put, Nat.reduceEqDiff, ne_eq, not_false_eq_true, Nat.reduceLT, hlen]; rfl, rfl⟩
    intro n e t hi
    rw [hI] at hi
    obtain ⟨hK, i, hn, he, e0, e1, e5, hag⟩ := hi
    by_cases hlt : i < l.length
    · obtain ⟨x, hx⟩ := getsome hlt
      have hw2 := wrap_add1 (n := i) (by unfold lim at hl; omega)
      obtain ⟨a1, a2, _, _, _, al⟩ := nd_lods hr hK hx
      have i1 := nd_idx hr hx .i64
      have hdr : l.drop i = x :: l.drop (i + 1) := by
        rw [List.drop_eq_getElem_cons hlt]
        congr 1
        exact (List.getElem?_eq_some_iff.1 hx).2
      rw [hdr] at hag
      rw [agreeL_cons] at hag
      have qf := q_Find false (hK.read hw) hm x.d
      rw [findL_look] at qf
      cases hf : lookN m x.d with
      | none =>
        rw [hf] at qf hag
        simp only [Bool.true_and] at qf hag
        have hz : ((0 : Int) ≤ -1) = False := by decide
        simp (config := {contextual := true, maxDischargeDepth := 12}) only [tb, e0, e1, e5, he, hL, hlt, hw2, a1, a2, al, i1, qf, hz, ↓bD, bU, forall_const, List.all_cons, List.all_nil, Option.map_some, List.map_cons, List.map_nil, ne_eq, implies_true, isNx, cs_dec, cs_not, cs_and, cs_or, cs_valid, eq_self, ↓wp_cond, ↓wp_loop, ↓reduceIte, reduceCtorEq, Nat.reduceEqDiff, Nat.reduceLT, Nat.reduceAdd, Nat.reduceMul, Int.ofNat_lt, Int.ofNat_le, exists_const, ae_app, ap_slc, Option.map_none, mkR_none, mkR_some, ar_look, ae_mset, ae_rng, ae_mkmap0, ar_ent, lookV_push, lookV_lowed, msetV_push, msetV_lowed, lt_put, same_put, sto_over, sto_lowed, cs_dead, Option.map_some, beq_self_eq_true, decide_true, cs_true, cs_false]
        refine ⟨n - 1, by omega, ?_⟩
        rw [hI]
        exact ⟨hK, i + 1, by omega, by simp only [E_pne, E_psame, elen_put, Nat.reduceEqDiff, ne_eq, not_false_eq_true, Nat.reduceLT, he], by simp only [E_pne, E_psame, elen_put, Nat.reduceEqDiff, ne_eq, not_false_eq_true, Nat.reduceLT, e0], by simp only [E_pne, E_psame, elen_put, Nat.reduceEqDiff, ne_eq, not_false_eq_true, Nat.reduceLT, e1], by simp only [E_pne, E_psame, elen_put, Nat.reduceEqDiff, ne_eq, not_false_eq_true, Nat.reduceLT, he], hag⟩
      | some p =>
        obtain ⟨j, y⟩ := p
        obtain ⟨hy, hyd⟩ := lookN_some hf
        rw [hf] at qf hag
        simp only at qf hag
        have hz : ((0 : Int) ≤ (j : Int)) = True := eq_true (by omega)
        obtain ⟨b1, _, _, _, _, bl⟩ := nd_lods hw hK hy
        have i2 := nd_idx hw hy .i64
        by_cases hc : x.clash y = true
        · have hMg : refMergeV x y = .tup [.agg (Nd.av nd0), .bool false] := by simp [refMergeV, hc]
          have hres : agreeL l m = false := by
            rw [← hag, hc]
            rfl
          simp (config := {contextual := true, maxDischargeDepth := 12}) only [tb, q_RefMerge, e0, e1, e5, he, hL, hlt, hw2, a1, a2, al, i1, qf, hz, b1, bl, i2, hMg, ↓bD, bU, forall_const, List.all_cons, List.all_nil, Option.map_some, List.map_cons, List.map_nil, ne_eq, implies_true, isNx, cs_dec, cs_not, cs_and, cs_or, cs_valid, eq_self, ↓wp_cond, ↓wp_loop, ↓reduceIte, reduceCtorEq, Nat.reduceEqDiff, Nat.reduceLT, Nat.reduceAdd, Nat.reduceMul, Int.ofNat_lt, Int.ofNat_le, exists_const, ae_app, ap_slc, Option.map_none, mkR_none, mkR_some, ar_look, ae_mset, ae_rng, ae_mkmap0, ar_ent, lookV_push, lookV_lowed, msetV_push, msetV_lowed, lt_put, same_put, sto_over, sto_lowed, cs_dead, Option.map_some, beq_self_eq_true, decide_true, cs_true, cs_false]
          exact ⟨by simp [fAgree, hres], hK.lowed.push _⟩
        · have hMg : refMergeV x y = .tup [.agg (Nd.av (x.merge y)), .bool true] := by simp [refMergeV, hc]
          have hc' : x.clash y = false := by simpa using hc
          rw [hc'] at hag
          simp only [Bool.not_false, Bool.true_and] at hag
          simp (config := {contextual := true, maxDischargeDepth := 12}) only [tb, q_RefMerge, e0, e1, e5, he, hL, hlt, hw2, a1, a2, al, i1, qf, hz, b1, bl, i2, hMg, ↓bD, bU, forall_const, List.all_cons, List.all_nil, Option.map_some, List.map_cons, List.map_nil, ne_eq, implies_true, isNx, cs_dec, cs_not, cs_and, cs_or, cs_valid, eq_self, ↓wp_cond, ↓wp_loop, ↓reduceIte, reduceCtorEq, Nat.reduceEqDiff, Nat.reduceLT, Nat.reduceAdd, Nat.reduceMul, Int.ofNat_lt, Int.ofNat_le, exists_const, ae_app, ap_slc, Option.map_none, mkR_none, mkR_some, ar_look, ae_mset, ae_rng, ae_mkmap0, ar_ent, lookV_push, lookV_lowed, msetV_push, msetV_lowed, lt_put, same_put, sto_over, sto_lowed, cs_dead, Option.map_some, beq_self_eq_true, decide_true, cs_true, cs_false]
          refine ⟨n - 1, by omega, ?_⟩
          rw [hI]
          exact ⟨hK.lowed.push _, i + 1, by omega, by simp only [E_pne, E_psame, elen_put, Nat.reduceEqDiff, ne_eq, not_false_eq_true, Nat.reduceLT, he], by simp only [E_pne, E_psame, elen_put, Nat.reduceEqDiff, ne_eq, not_false_eq_true, Nat.reduceLT, e0], by simp only [E_pne, E_psame, elen_put, Nat.reduceEqDiff, ne_eq, not_false_eq_true, Nat.reduceLT, e1], by simp only [E_pne, E_psame, elen_put, Nat.reduceEqDiff, ne_eq, not_false_eq_true, Nat.reduceLT, he], hag⟩
    · have : agreeL l m = true := by
        rw [← hag, List.drop_eq_nil_of_le (by omega)]
        rfl
      simp (config := {contextual := true, maxDischargeDepth := 12}) only [tb, e0, e1, e5, he, hL, hlt, ↓bD, bU, forall_const, List.all_cons, List.all_nil, Option.map_some, List.map_cons, List.map_nil, ne_eq, implies_true, isNx, cs_dec, cs_not, cs_and, cs_or, cs_valid, eq_self, ↓wp_cond, ↓wp_loop, ↓reduceIte, reduceCtorEq, Nat.reduceEqDiff, Nat.reduceLT, Nat.reduceAdd, Nat.reduceMul, Int.ofNat_lt, Int.ofNat_le, exists_const, ae_app, ap_slc, Option.map_none, mkR_none, mkR_some, ar_look, ae_mset, ae_rng, ae_mkmap0, ar_ent, lookV_push, lookV_lowed, msetV_push, msetV_lowed, lt_put, same_put, sto_over, sto_lowed, cs_dead, Option.map_some, beq_self_eq_true, decide_true, cs_true, cs_false]
      exact ⟨by simp [fAgree, this], hK⟩
theorem q_RAgree (cl : Bool) {v w : AV} {l m : List Nd} {s : St} (h : read ndC s v = some l) (k : read ndC s w = some m) (hl : l.length ≤ lim) (hm : m.length ≤ lim) : acall (conLL ndC ndC fAgree) cl [v, w] s = some (.bool (agreeL l m), s) := conLL_call (fun _ _ => rfl) h k hl hm cl

def agreeV (l m : List Nd) : AV := match gJoin l m with
  | some (_, some (.int .i64 0)) => .tup [.bool true, .int .i64 0]
  | some (_, some (.int .i64 15)) => .tup [.bool false, .int .i64 0]
  | _ => .tup [.bool false, .int .i64 2]
def withinV (l m : List Nd) : AV := match gJoin l m with
  | some (j, some (.int .i64 0)) => .tup [.bool (decide (j = m)), .int .i64 0]
  | some (_, some (.int .i64 15)) => .tup [.bool false, .int .i64 15]
  | _ => .tup [.bool false, .int .i64 2]
theorem gJoin_cases (l m : List Nd) : (∃ j, storeL l = true ∧ storeL m = true ∧ joinL l m = some j ∧ gJoin l m = some (j, some (.int .i64 0))) ∨ (storeL l = true ∧ storeL m = true ∧ joinL l m = none ∧ gJoin l m = some ([], some (.int .i64 15))) ∨ (¬ (storeL l = true ∧ storeL m = true) ∧ gJoin l m = some ([], some (.int .i64 2))) := by
  unfold gJoin
  by_cases h : storeL l = true ∧ storeL m = true
  · rw [if_pos h]
    cases hj : joinL l m with
    | none => exact .inr (.inl ⟨h.1, h.2, rfl, rfl⟩)
    | some j => exact .inl ⟨j, h.1, h.2, rfl, rfl⟩
  · rw [if_neg h]
    exact .inr (.inr ⟨h, rfl⟩)
theorem joinL_len : ∀ (l m : List Nd) (j : List Nd), joinL l m = some j → j.length ≤ l.length + m.length := by
  intro l m
  induction l, m using joinL.induct with
  | case1 b => intro j h; simp [joinL] at h; subst h; simp
  | case2 x a => intro j h; simp [joinL] at h; subst h; simp
  | case3 x a y b h1 ih =>
    intro j h
    rw [joinL, if_pos h1, Option.map_eq_some_iff] at h
    obtain ⟨j', h2, rfl⟩ := h
    have := ih j' h2
    simp at this ⊢
    omega
  | case4 x a y b h1 h2 ih =>
    intro j h
    rw [joinL, if_neg h1, if_pos h2, Option.map_eq_some_iff] at h
    obtain ⟨j', h2, rfl⟩ := h
    have := ih j' h2
    simp at this ⊢
    omega
  | case5 x a y b h1 h2 h3 =>
    intro j h
    simp [joinL, h1, h2, h3] at h
  | case6 x a y b h1 h2 h3 ih =>
    intro j h
    rw [joinL, if_neg h1, if_neg h2, if_neg h3, Option.map_eq_some_iff] at h
    obtain ⟨j', h2, rfl⟩ := h
    have := ih j' h2
    simp at this ⊢
    omega
theorem agreeV_ground (l m : List Nd) : (agreeV l m).ground = true := by
  rcases gJoin_cases l m with ⟨j, _, _, _, h⟩ | ⟨_, _, _, h⟩ | ⟨_, h⟩ <;> (unfold agreeV; rw [h]; rfl)
theorem withinV_ground (l m : List Nd) : (withinV l m).ground = true := by
  rcases gJoin_cases l m with ⟨j, _, _, _, h⟩ | ⟨_, _, _, h⟩ | ⟨_, h⟩ <;> (unfold withinV; rw [h]; rfl)
/-- Two lists, each short. -/
def conLLs (f : List Nd → List Nd → AV) : Con := fun xs s => match xs with
  | [v, w] => match read ndC s v, read ndC s w with
    | some l, some m => if l.length ≤ 100000 ∧ m.length ≤ 100000 then some (f l m, s.lowed) else none
    | _, _ => none
  | _ => none
theorem conLLs_some {f : List Nd → List Nd → AV} {xs : List AV} {s : St} {r : AV} {s' : St} (h : conLLs f xs s = some (r, s')) : ∃ v w l m, xs = [v, w] ∧ read ndC s v = some l ∧ read ndC s w = some m ∧ l.length ≤ 100000 ∧ m.length ≤ 100000 ∧ r = f l m ∧ s' = s.lowed := by
  unfold conLLs at h
  split at h
  · split at h
    · split at h
      · rename_i v w _ _ l m hr hw hl
        injection h with h
        obtain ⟨rfl, rfl⟩ := Prod.mk.inj h
        exact ⟨v, w, l, m, rfl, hr, hw, hl.1, hl.2, rfl, rfl⟩
      · cases h
    · cases h
  · cases h
theorem conLLs_call {f : List Nd → List Nd → AV} (hf : ∀ l m, (f l m).ground = true) {s : St} {v w : AV} {l m : List Nd} (h : read ndC s v = some l) (k : read ndC s w = some m) (hl : l.length ≤ 100000) (hm : m.length ≤ 100000) (cl : Bool) : acall (conLLs f) cl [v, w] s = some (f l m, s) :=
  acall_rol (by simp only [conLLs, read_low, h, k, hl, hm, and_self, if_true]) (hf l m)
theorem s_Agree : SoundAt Try.prog 36 (conLLs agreeV) :=
  con_keep (tb_sound (l := [(23, conF ndC (pLL ndC ndC gJoin))]) (by simpa using s_Join)) mixed Try.func36 k36 c36 fun args s r s' h => by
    obtain ⟨v, w, l, m, rfl, hr, hw, hls, hms, rfl, rfl⟩ := conLLs_some h
    refine ⟨rfl, agreeV_ground _ _, by simp [a36], fun env hlen ha => ?_⟩
    have h0 : E env 0 = _ := ha 0 _ rfl
    have h1 : E env 1 = _ := ha 1 _ rfl
    have hlen : elen env = _ := hlen
    simp only [a36] at hlen
    unfold a36
    try dsimp only [oO, oG]
    have hl : l.length ≤ lim := by unfold lim; omega
    have hm : m.length ≤ lim := by unfold lim; omega
    have k1 : ((2 : Int) = 0) = False := by decide
    have k2 : ((15 : Int) = 0) = False := by decide
    have k3 : ((2 : Int) = 15) = False := by decide
    have k4 : ((0 : Int) = 15) = False := by decide
    rcases gJoin_cases l m with ⟨j, hv1, hv2, hj, hg⟩ | ⟨hv1, hv2, hj, hg⟩ | ⟨hv, hg⟩
    all_goals
      obtain ⟨u, t, hc, hK, hO⟩ := fresh_LL (D := ndC) (f := gJoin) hr hw hl hm hg (gJoin_plain hg)
      rw [mkR_some] at hc
    · have qe := q_JEqual false hO.read (hK.read hw) (by have := joinL_len _ _ _ hj; unfold lim; omega) hm
      simp (config := {contextual := true, maxDischargeDepth := 12}) only [tb, h0, h1, hlen, hc, k1, k2, k3, k4, qe, ↓bD, bU, forall_const, List.all_cons, List.all_nil, Option.map_some, List.map_cons, List.map_nil, ne_eq, implies_true, isNx, cs_dec, cs_not, cs_and, cs_or, cs_valid, eq_self, ↓wp_cond, ↓wp_loop, ↓reduceIte, reduceCtorEq, Nat.reduceEqDiff, Nat.reduceLT, Nat.reduceAdd, Nat.reduceMul, Int.ofNat_lt, Int.ofNat_le, exists_const, ae_app, ap_slc, Option.map_none, mkR_none, mkR_some, ar_look, ae_mset, ae_rng, ae_mkmap0, ar_ent, lookV_push, lookV_lowed, msetV_push, msetV_lowed, lt_put, same_put, sto_over, sto_lowed, cs_dead, Option.map_some, beq_self_eq_true, decide_true, cs_true, cs_false]
      exact ⟨by unfold agreeV; rw [hg]; rfl, hK⟩
    · have qe := trivial
      simp (config := {contextual := true, maxDischargeDepth := 12}) only [tb, h0, h1, hlen, hc, k1, k2, k3, k4, ↓bD, bU, forall_const, List.all_cons, List.all_nil, Option.map_some, List.map_cons, List.map_nil, ne_eq, implies_true, isNx, cs_dec, cs_not, cs_and, cs_or, cs_valid, eq_self, ↓wp_cond, ↓wp_loop, ↓reduceIte, reduceCtorEq, Nat.reduceEqDiff, Nat.reduceLT, Nat.reduceAdd, Nat.reduceMul, Int.ofNat_lt, Int.ofNat_le, exists_const, ae_app, ap_slc, Option.map_none, mkR_none, mkR_some, ar_look, ae_mset, ae_rng, ae_mkmap0, ar_ent, lookV_push, lookV_lowed, msetV_push, msetV_lowed, lt_put, same_put, sto_over, sto_lowed, cs_dead, Option.map_some, beq_self_eq_true, decide_true, cs_true, cs_false]
      exact ⟨by unfold agreeV; rw [hg]; rfl, hK⟩
    · have qe := trivial
      simp (config := {contextual := true, maxDischargeDepth := 12}) only [tb, h0, h1, hlen, hc, k1, k2, k3, k4, ↓bD, bU, forall_const, List.all_cons, List.all_nil, Option.map_some, List.map_cons, List.map_nil, ne_eq, implies_true, isNx, cs_dec, cs_not, cs_and, cs_or, cs_valid, eq_self, ↓wp_cond, ↓wp_loop, ↓reduceIte, reduceCtorEq, Nat.reduceEqDiff, Nat.reduceLT, Nat.reduceAdd, Nat.reduceMul, Int.ofNat_lt, Int.ofNat_le, exists_const, ae_app, ap_slc, Option.map_none, mkR_none, mkR_some, ar_look, ae_mset, ae_rng, ae_mkmap0, ar_ent, lookV_push, lookV_lowed, msetV_push, msetV_lowed, lt_put, same_put, sto_over, sto_lowed, cs_dead, Option.map_some, beq_self_eq_true, decide_true, cs_true, cs_false]
      exact ⟨by unfold agreeV; rw [hg]; rfl, hK⟩
theorem q_Agree (cl : Bool) {v w : AV} {l m : List Nd} {s : St} (h : read ndC s v = some l) (k : read ndC s w = some m) (hl : l.length ≤ 100000) (hm : m.length ≤ 100000) : acall (conLLs agreeV) cl [v, w] s = some (agreeV l m, s) := conLLs_call agreeV_ground h k hl hm cl
theorem q_Within (cl : Bool) {v w : AV} {l m : List Nd} {s : St} (h : read ndC s v = some l) (k : read ndC s w = some m) (hl : l.length ≤ 100000) (hm : m.length ≤ 100000) : acall (conLLs withinV) cl [v, w] s = some (withinV l m, s) := conLLs_call withinV_ground h k hl hm cl

end Go.AM
end
