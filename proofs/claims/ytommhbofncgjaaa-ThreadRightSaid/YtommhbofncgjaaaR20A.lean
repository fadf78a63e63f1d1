/- Layer 20 over the machine: what each function hands back. No condition but those each theorem names. -/
import Derived.Test.YtommhbofncgjaaaR20S
namespace Go.Proofs.Ytommhbofncgjaaa.Vm.R20
open Go Go.Proofs.Ytommhbofncgjaaa.Vm Go.Proofs Go.RowKit
set_option maxRecDepth 1000000
set_option linter.unusedVariables false
set_option linter.unusedSimpArgs false
theorem facts0 (E : Env) (K : List (Atom × Bool)) : FactsOk (C0.more K) E := facts_nil rfl
theorem fok0 (σ : Nat → Int) (β : Nat → Bool) (w : World) (K : List (Atom × Bool)) : FOk (fun r => r < w.heap.size) w (C0.more K) (Env.of σ β fun _ => FS.no) := FOk.none rfl w σ β
theorem fokF (σ : Nat → Int) (β : Nat → Bool) (w : World) (K : List (Atom × Bool)) : FOk (fun r => r < w.heap.size) w (CF.more K) (Env.of σ β fun _ => FS.no) := FOk.none rfl w σ β
theorem valT (t : Th) (x : Nat → Int) (c : Bool) (s : SI) (h : s.den (En t x c) = t.state) : AV.valEs (En t x c) [T s] = some [.agg t.cells] := by
  simp only [AV.valEs, val_T t x c s h]
theorem ans_check (t : Th) (hb : 0 ≤ t.badge) : Ans Try.prog 13 [.agg t.cells] (.int .i64 (refT t)) := by
  have go : ∀ (s : SI) (dt : DT) (K : List (Atom × Bool)), s.den (En t (fun _ => 0) false) = t.state → treeOk C0 300 13 [T s] dt K = true → (∀ p ∈ K, p.1.den (En t (fun _ => 0) false) = p.2) → dt.at (En t (fun _ => 0) false) = .int .i64 (.lit (refT t)) → Ans Try.prog 13 [.agg t.cells] (.int .i64 (refT t)) := fun s dt K h1 h2 h3 h4 =>
    tree_ok (fn := Try.f13) (c := _) hC hprog hsil (facts0 _) Try.func13 rfl (valT t _ _ s h1) (fok0 _ _) dt K h2 h3 _ (by show AV.valE (En t (fun _ => 0) false) (DT.at (En t (fun _ => 0) false) dt) = _; rw [h4]; rfl)
  rcases Int.lt_or_le t.state 0 with h | h
  · refine go (.var 0) dCheckL _ rfl dCheckL_ok (fun p hp => ?_) (by rw [show refT t = 8 by unfold refT; rw [if_pos (.inl h)]]; rfl)
    simp only [List.mem_singleton] at hp; subst hp; exact decide_eq_true h
  · rcases Int.lt_or_le 5 t.state with h5 | h5
    · refine go (.var 0) dCheckH _ rfl dCheckH_ok (fun p hp => ?_) (by rw [show refT t = 8 by unfold refT; rw [if_pos (.inr h5)]]; rfl)
      simp only [List.mem_cons, List.not_mem_nil, or_false] at hp
      rcases hp with rfl | rfl
      · exact decide_eq_true h5
      · exact decide_eq_false (by show ¬ t.state < 0; omega)
    · have : t.state = 0 ∨ t.state = 1 ∨ t.state = 2 ∨ t.state = 3 ∨ t.state = 4 ∨ t.state = 5 := by omega
      rcases this with h | h | h | h | h | h
      · exact go (.lit 0) dCheck0 _ h.symm dCheck0_ok (by simp) (check0 t _ _ hb h)
      · exact go (.lit 1) dCheck1 _ h.symm dCheck1_ok (by simp) (check1 t _ _ hb h)
      · exact go (.lit 2) dCheck2 _ h.symm dCheck2_ok (by simp) (check2 t _ _ hb h)
      · exact go (.lit 3) dCheck3 _ h.symm dCheck3_ok (by simp) (check3 t _ _ hb h)
      · exact go (.lit 4) dCheck4 _ h.symm dCheck4_ok (by simp) (check4 t _ _ hb h)
      · exact go (.lit 5) dCheck5 _ h.symm dCheck5_ok (by simp) (check5 t _ _ hb h)
theorem ans_ref (t : Th) (hb : 0 ≤ t.badge) : Ans Try.prog 14 [.agg t.cells] (.int .i64 (refT t)) := by
  have go : ∀ (s : SI) (dt : DT) (K : List (Atom × Bool)), s.den (En t (fun _ => 0) false) = t.state → treeOk C0 300 14 [T s] dt K = true → (∀ p ∈ K, p.1.den (En t (fun _ => 0) false) = p.2) → dt.at (En t (fun _ => 0) false) = .int .i64 (.lit (refT t)) → Ans Try.prog 14 [.agg t.cells] (.int .i64 (refT t)) := fun s dt K h1 h2 h3 h4 =>
    tree_ok (fn := Try.f14) (c := _) hC hprog hsil (facts0 _) Try.func14 rfl (valT t _ _ s h1) (fok0 _ _) dt K h2 h3 _ (by show AV.valE (En t (fun _ => 0) false) (DT.at (En t (fun _ => 0) false) dt) = _; rw [h4]; rfl)
  rcases Int.lt_or_le t.state 0 with h | h
  · refine go (.var 0) dRefL _ rfl dRefL_ok (fun p hp => ?_) (by rw [show refT t = 8 by unfold refT; rw [if_pos (.inl h)]]; rfl)
    simp only [List.mem_singleton] at hp; subst hp; exact decide_eq_true h
  · rcases Int.lt_or_le 5 t.state with h5 | h5
    · refine go (.var 0) dRefH _ rfl dRefH_ok (fun p hp => ?_) (by rw [show refT t = 8 by unfold refT; rw [if_pos (.inr h5)]]; rfl)
      simp only [List.mem_cons, List.not_mem_nil, or_false] at hp
      rcases hp with rfl | rfl
      · exact decide_eq_true h5
      · exact decide_eq_false (by show ¬ t.state < 0; omega)
    · have : t.state = 0 ∨ t.state = 1 ∨ t.state = 2 ∨ t.state = 3 ∨ t.state = 4 ∨ t.state = 5 := by omega
      rcases this with h | h | h | h | h | h
      · exact go (.lit 0) dRef0 _ h.symm dRef0_ok (by simp) (ref0 t _ _ hb h)
      · exact go (.lit 1) dRef1 _ h.symm dRef1_ok (by simp) (ref1 t _ _ hb h)
      · exact go (.lit 2) dRef2 _ h.symm dRef2_ok (by simp) (ref2 t _ _ hb h)
      · exact go (.lit 3) dRef3 _ h.symm dRef3_ok (by simp) (ref3 t _ _ hb h)
      · exact go (.lit 4) dRef4 _ h.symm dRef4_ok (by simp) (ref4 t _ _ hb h)
      · exact go (.lit 5) dRef5 _ h.symm dRef5_ok (by simp) (ref5 t _ _ hb h)
/-! ### The answers -/
def stillT (t : Th) (s : Int) : Th := { t with state := s, on := 0, badge := 0, calls := false }
def newT (l d : Int) : Th := ⟨0, 0, 0, false, -1, l, d, 0, 0, 0, 0, 0, 0, 0, 0, 0⟩
def blockT (t : Th) (s o b : Int) (c : Bool) : Th := { t with state := s, on := o, badge := b, calls := c }
def regsT (t : Th) (r : Nat → Int) : Th := { t with r0 := r 0, r1 := r 1, r2 := r 2, r3 := r 3, r4 := r 4, r5 := r 5, r6 := r 6, r7 := r 7 }
def NewT (l d : Int) : Th × Int := if l < 0 ∨ 7 < l ∨ d < 0 ∨ 3 < d then (Th.zero, 1) else (newT l d, 0)
def StartT (t : Th) : Th × Int := if refT t = 0 then (if t.state = 0 then (stillT t 1, 0) else (Th.zero, 8)) else (Th.zero, refT t)
def BlockT (t : Th) (s o b : Int) (c : Bool) : Th × Int := if refT t = 0 then (if t.state = 1 then (if s = 0 ∨ s = 1 then (Th.zero, 8) else if refT (blockT t s o b c) = 0 then (blockT t s o b c, 0) else (Th.zero, refT (blockT t s o b c))) else (Th.zero, 8)) else (Th.zero, refT t)
def WakeT (t : Th) (r : Nat → Int) : Th × Int := if refT t = 0 then (if t.state = 0 ∨ t.state = 1 then (Th.zero, 8) else (regsT (stillT t 1) r, 0)) else (Th.zero, refT t)
def AskT (t : Th) (c : Int) : Th × Int := if refT t = 0 then (if c < -1 ∨ 63 < c then (Th.zero, 1) else if c ≠ -1 ∧ t.caller ≠ -1 then (Th.zero, 4) else ({ t with caller := c }, 0)) else (Th.zero, refT t)
def pairV (p : Th × Int) : Value := .tuple #[.agg p.1.cells, .int .i64 p.2]
def regsV (r : Nat → Int) : Value := .agg #[.int .u64 (r 0), .int .u64 (r 1), .int .u64 (r 2), .int .u64 (r 3), .int .u64 (r 4), .int .u64 (r 5), .int .u64 (r 6), .int .u64 (r 7)]
/-- The other named numbers. -/
def xs (t : Th) (s o b : Int) (c : Bool) (r : Nat → Int) (i : Nat) : Int := match i with
  | 16 => s | 17 => o | 18 => b | 20 => refT t | 21 => refT (blockT t s o b c)
  | i => r (i - 24)
noncomputable def Ef (t : Th) (s o b : Int) (c : Bool) (r : Nat → Int) : Env := En t (xs t s o b c r) c
section
variable (t : Th) (s o b : Int) (c : Bool) (r : Nat → Int)
theorem valTf : AV.valEs (Ef t s o b c r) [T (.var 0)] = some [.agg t.cells] := valT t _ _ _ rfl
theorem valBf : AV.valEs (Ef t s o b c r) [B] = some [.agg (blockT t s o b c).cells] := rfl
theorem factsF (hb : 0 ≤ t.badge) (hb2 : 0 ≤ b) (K : List (Atom × Bool)) : FactsOk (CF.more K) (Ef t s o b c r) := by
  intro x hx H
  have hx' : x ∈ F := hx
  simp only [F, List.mem_cons, List.not_mem_nil, or_false] at hx'
  rcases hx' with rfl | rfl | rfl | rfl
  · exact fact_val (C := CF.more K) hprog (fn := Try.f13) (c := _) Try.func13 rfl rfl rfl (valTf t s o b c r) rfl (ans_check t hb) H
  · exact fact_val (C := CF.more K) hprog (fn := Try.f14) (c := _) Try.func14 rfl rfl rfl (valTf t s o b c r) rfl (ans_ref t hb) H
  · exact fact_val (C := CF.more K) hprog (fn := Try.f13) (c := _) Try.func13 rfl rfl rfl (valBf t s o b c r) rfl (ans_check (blockT t s o b c) hb2) H
  · exact fact_val (C := CF.more K) hprog (fn := Try.f14) (c := _) Try.func14 rfl rfl rfl (valBf t s o b c r) rfl (ans_ref (blockT t s o b c) hb2) H
theorem goF (hb : 0 ≤ t.badge) (hb2 : 0 ≤ b) {f : Nat} {fn : Func} {cd : Code} (hf : Try.prog.funcs[f]? = some fn) (hbd : fn.body = some cd) {args : List AV} {us : List Value} (hus : AV.valEs (Ef t s o b c r) args = some us) {dt : DT} (h : treeOk CF 300 f args dt [] = true) {v : Value} (hv : AV.valE (Ef t s o b c r) (dt.at (Ef t s o b c r)) = some v) : Ans Try.prog f us v :=
  tree_ok (C := CF) ⟨hC.ty, hC.fn⟩ hprog hsil (factsF t s o b c r hb hb2) hf hbd hus (fokF _ _) dt [] h (by simp) v hv
end
theorem ans_new (l d : Int) : Ans Try.prog 9 [.int .i64 l, .int .i64 d] (pairV (NewT l d)) := by
  refine tree_ok (σ := fun i => if i = 0 then l else d) (β := fun _ => false) (fs := fun _ => FS.no) (fn := Try.f9) (c := _) hC hprog hsil (facts0 _) Try.func9 rfl rfl (fok0 _ _) dNew [] dNew_ok (by simp) _ ?_
  simp only [dNew, DT.at, Atom.den, SI.den, Env.of, decide_eq_true_eq, NewT]
  by_cases h1 : l < 0
  · simp [h1]; rfl
  · by_cases h2 : 7 < l
    · simp [h1, h2]; rfl
    · by_cases h3 : d < 0
      · simp [h1, h2, h3]; rfl
      · by_cases h4 : 3 < d
        · simp [h1, h2, h3, h4]; rfl
        · simp [h1, h2, h3, h4]; rfl
theorem ans_rnew (l d : Int) : Ans Try.prog 12 [.int .i64 l, .int .i64 d] (pairV (NewT l d)) := by
  refine tree_ok (σ := fun i => if i = 0 then l else d) (β := fun _ => false) (fs := fun _ => FS.no) (fn := Try.f12) (c := _) hC hprog hsil (facts0 _) Try.func12 rfl rfl (fok0 _ _) dRNew [] dRNew_ok (by simp) _ ?_
  simp only [dRNew, DT.at, Atom.den, SI.den, Env.of, decide_eq_true_eq, NewT]
  by_cases h1 : l < 0
  · simp [h1]; rfl
  · by_cases h2 : 7 < l
    · simp [h1, h2]; rfl
    · by_cases h3 : d < 0
      · simp [h1, h2, h3]; rfl
      · by_cases h4 : 3 < d
        · simp [h1, h2, h3, h4]; rfl
        · simp [h1, h2, h3, h4]; rfl
theorem ans_to (t : Th) (hb : 0 ≤ t.badge) : Ans Try.prog 11 [.agg t.cells] (.agg t.cells) := goF t 0 0 0 false (fun _ => 0) hb (Int.le_refl 0) (fn := Try.f11) (cd := _) Try.func11 rfl (valTf _ _ _ _ _ _) dTo_ok rfl
theorem ans_stop (t : Th) (hb : 0 ≤ t.badge) : Ans Try.prog 15 [.agg t.cells] (.agg (stillT t 0).cells) := goF t 0 0 0 false (fun _ => 0) hb (Int.le_refl 0) (fn := Try.f15) (cd := _) Try.func15 rfl (valTf _ _ _ _ _ _) dStop_ok rfl
theorem ans_rstop (t : Th) (hb : 0 ≤ t.badge) : Ans Try.prog 16 [.agg t.cells] (.agg (stillT t 0).cells) := goF t 0 0 0 false (fun _ => 0) hb (Int.le_refl 0) (fn := Try.f16) (cd := _) Try.func16 rfl (valTf _ _ _ _ _ _) dRStop_ok rfl
theorem plainOf {t : Th} (h : refT t = 0) (hs : t.state = 0) : t.on = 0 ∧ t.badge = 0 ∧ t.calls = false := by
  unfold refT at h
  rw [if_neg (by omega)] at h
  split at h
  · rename_i hr
    obtain ⟨_, _, _, _, _, _, _, _, _, _, _, h1, h2⟩ := hr
    exact ⟨h1 (.inl hs), (h2 (by omega)).1, (h2 (by omega)).2⟩
  · cases h
theorem ans_start (t : Th) (hb : 0 ≤ t.badge) : Ans Try.prog 17 [.agg t.cells] (pairV (StartT t)) := by
  refine goF t 0 0 0 false (fun _ => 0) hb (Int.le_refl 0) (fn := Try.f17) (cd := _) Try.func17 rfl (valTf _ _ _ _ _ _) dStart_ok ?_
  simp only [dStart, DT.at, Atom.den, SI.den, Ef, En, Env.of, sg, xs, decide_eq_true_eq, StartT]
  by_cases h1 : refT t = 0
  · by_cases h2 : t.state = 0
    · simp only [h1, h2, if_true]; rfl
    · simp only [h1, h2, if_true, if_false]; rfl
  · simp only [h1, if_false]; rfl
theorem ans_rstart (t : Th) (hb : 0 ≤ t.badge) : Ans Try.prog 18 [.agg t.cells] (pairV (StartT t)) := by
  refine goF t 0 0 0 false (fun _ => 0) hb (Int.le_refl 0) (fn := Try.f18) (cd := _) Try.func18 rfl (valTf _ _ _ _ _ _) dRStart_ok ?_
  simp only [dRStart, DT.at, Atom.den, SI.den, Ef, En, Env.of, sg, xs, decide_eq_true_eq, StartT]
  by_cases h1 : refT t = 0
  · by_cases h2 : t.state = 0
    · obtain ⟨k1, k2, k3⟩ := plainOf h1 h2
      obtain ⟨st, on, bd, ca, q4, q5, q6, q7, q8, q9, q10, q11, q12, q13, q14, q15⟩ := t
      simp only at k1 k2 k3 h2
      subst k1 k2 k3 h2
      rw [if_pos h1, if_pos rfl, if_pos h1, if_pos rfl]; rfl
    · simp only [h1, h2, if_true, if_false]; rfl
  · simp only [h1, if_false]; rfl
section
variable (t : Th) (s o b : Int) (c : Bool)
theorem ans_block (hb : 0 ≤ t.badge) (hb2 : 0 ≤ b) : Ans Try.prog 19 [.agg t.cells, .int .i64 s, .int .i64 o, .int .u64 b, .bool c] (pairV (BlockT t s o b c)) := by
  refine goF t s o b c (fun _ => 0) hb hb2 (fn := Try.f19) (cd := _) Try.func19 rfl rfl dBlock_ok ?_
  simp only [dBlock, DT.at, Atom.den, SI.den, Ef, En, Env.of, sg, xs, decide_eq_true_eq, BlockT]
  by_cases h1 : refT t = 0
  · by_cases h2 : t.state = 1
    · by_cases h3 : s = 0
      · simp only [h1, h2, h3, if_true, true_or]; rfl
      · by_cases h4 : s = 1
        · simp only [h1, h2, h4, if_true, or_true]; rfl
        · by_cases h5 : refT (blockT t s o b c) = 0
          · simp only [h1, h2, h3, h4, h5, if_true, if_false, or_self]; rfl
          · simp only [h1, h2, h3, h4, h5, if_true, if_false, or_self]; rfl
    · simp only [h1, h2, if_true, if_false]; rfl
  · simp only [h1, if_false]; rfl
theorem ans_rblock (hb : 0 ≤ t.badge) (hb2 : 0 ≤ b) : Ans Try.prog 20 [.agg t.cells, .int .i64 s, .int .i64 o, .int .u64 b, .bool c] (pairV (BlockT t s o b c)) := by
  refine goF t s o b c (fun _ => 0) hb hb2 (fn := Try.f20) (cd := _) Try.func20 rfl rfl dRBlock_ok ?_
  simp only [dRBlock, DT.at, Atom.den, SI.den, Ef, En, Env.of, sg, xs, decide_eq_true_eq, BlockT]
  by_cases h1 : refT t = 0
  · by_cases h2 : t.state = 1
    · by_cases h3 : s = 0
      · simp only [h1, h2, h3, if_true, true_or]; rfl
      · by_cases h4 : s = 1
        · simp only [h1, h2, h4, if_true, or_true]; rfl
        · by_cases h5 : refT (blockT t s o b c) = 0
          · simp only [h1, h2, h3, h4, h5, if_true, if_false, or_self]; rfl
          · simp only [h1, h2, h3, h4, h5, if_true, if_false, or_self]; rfl
    · simp only [h1, h2, if_true, if_false]; rfl
  · simp only [h1, if_false]; rfl
end
section
variable (t : Th)
theorem ans_wake (hb : 0 ≤ t.badge) (r : Nat → Int) : Ans Try.prog 21 [.agg t.cells, regsV r] (pairV (WakeT t r)) := by
  refine goF t 0 0 0 false r hb (Int.le_refl 0) (fn := Try.f21) (cd := _) Try.func21 rfl rfl dWake_ok ?_
  simp only [dWake, DT.at, Atom.den, SI.den, Ef, En, Env.of, sg, xs, decide_eq_true_eq, WakeT]
  by_cases h1 : refT t = 0
  · by_cases h2 : t.state = 0
    · simp only [h1, h2, if_true, true_or]; rfl
    · by_cases h3 : t.state = 1
      · simp only [h1, h3, if_true, or_true]; rfl
      · simp only [h1, h2, h3, if_true, if_false, or_self]; rfl
  · simp only [h1, if_false]; rfl
theorem ans_rwake (hb : 0 ≤ t.badge) (r : Nat → Int) : Ans Try.prog 22 [.agg t.cells, regsV r] (pairV (WakeT t r)) := by
  refine goF t 0 0 0 false r hb (Int.le_refl 0) (fn := Try.f22) (cd := _) Try.func22 rfl rfl dRWake_ok ?_
  simp only [dRWake, DT.at, Atom.den, SI.den, Ef, En, Env.of, sg, xs, decide_eq_true_eq, WakeT]
  by_cases h1 : refT t = 0
  · by_cases h2 : t.state = 0
    · simp only [h1, h2, if_true, true_or]; rfl
    · by_cases h3 : t.state = 1
      · simp only [h1, h3, if_true, or_true]; rfl
      · simp only [h1, h2, h3, if_true, if_false, or_self]; rfl
  · simp only [h1, if_false]; rfl
theorem ans_ask (hb : 0 ≤ t.badge) (k : Int) : Ans Try.prog 10 [.agg t.cells, .int .i64 k] (pairV (AskT t k)) := by
  refine goF t k 0 0 false (fun _ => 0) hb (Int.le_refl 0) (fn := Try.f10) (cd := _) Try.func10 rfl rfl dAsk_ok ?_
  simp only [dAsk, DT.at, Atom.den, SI.den, Ef, En, Env.of, sg, xs, decide_eq_true_eq, AskT]
  by_cases h1 : refT t = 0
  · by_cases h2 : k < -1
    · simp only [h1, h2, if_true, true_or]; rfl
    · by_cases h3 : 63 < k
      · simp only [h1, h2, h3, if_true, if_false, or_true]; rfl
      · by_cases h4 : k = -1
        · subst h4; simp [h1]; rfl
        · by_cases h5 : t.caller = -1
          · simp [h1, h2, h3, h4, h5]; rfl
          · simp [h1, h2, h3, h4, h5]; rfl
  · simp only [h1, if_false]; rfl
theorem ans_rask (hb : 0 ≤ t.badge) (k : Int) : Ans Try.prog 23 [.agg t.cells, .int .i64 k] (pairV (AskT t k)) := by
  refine goF t k 0 0 false (fun _ => 0) hb (Int.le_refl 0) (fn := Try.f23) (cd := _) Try.func23 rfl rfl dRAsk_ok ?_
  simp only [dRAsk, DT.at, Atom.den, SI.den, Ef, En, Env.of, sg, xs, decide_eq_true_eq, AskT]
  by_cases h1 : refT t = 0
  · by_cases h2 : k < -1
    · simp only [h1, h2, if_true, true_or]; rfl
    · by_cases h3 : 63 < k
      · simp only [h1, h2, h3, if_true, if_false, or_true]; rfl
      · by_cases h4 : k = -1
        · subst h4; simp [h1]; rfl
        · by_cases h5 : t.caller = -1
          · simp [h1, h2, h3, h4, h5]; rfl
          · simp [h1, h2, h3, h4, h5]; rfl
  · simp only [h1, if_false]; rfl
end
theorem ans_works : Ans Try.prog 8 [] (.bool true) :=
  tree_ok (σ := fun _ => 0) (β := fun _ => false) (fs := fun _ => FS.no) (fn := Try.f8) (c := _) hC hprog hsil (facts0 _) Try.func8 rfl rfl (fok0 _ _) dWorks [] (by exact dWorks_ok) (by simp) _ rfl
end Go.Proofs.Ytommhbofncgjaaa.Vm.R20
