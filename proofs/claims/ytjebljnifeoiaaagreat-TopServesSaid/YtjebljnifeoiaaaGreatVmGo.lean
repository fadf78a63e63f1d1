/- The machine in use: a walk part by part; loops; the end of a function. No condition but those each theorem names. -/
import Derived.Test.YtjebljnifeoiaaaGreatVmLoop
namespace Go.Proofs.YtjebljnifeoiaaaGreat.Vm
open Go Go.RowKit
set_option linter.unusedVariables false
set_option linter.unusedSimpArgs false
/-- The first named numbers are these. -/
structure Names (σl : List Int) (βl : List Bool) (σ : Nat → Int) (β : Nat → Bool) : Prop where
  σ : ∀ (i : Nat) x, σl[i]? = some x → σ i = x
  β : ∀ (i : Nat) x, βl[i]? = some x → β i = x
/-- The world is as the state says, whatever other numbers are named; of what was there in W nothing has turned. -/
def At (W : World) (C : Ctx) (N : Nat) (S : Sp) (σl : List Int) (βl : List Bool) (fs : Nat → FS) (a : Act) (w : World) : Prop :=
  ∃ ρ, ∀ σ β, Names σl βl σ β → ARel (fun r => r < W.heap.size) W (C.more []) ⟨ρ, σ, β, fs⟩ N S.st a w
noncomputable def okNorm (L : List Nat) (θ : List SI) (φ : List SB) (N : Nat) (S : Sp) (r : R) : Bool := r.onNorm false fun s => matchSp L θ φ N S s
noncomputable def okExit (i : Nat) (L : List Nat) (θ : List SI) (φ : List SB) (N : Nat) (S : Sp) (r : R) : Bool := r.onExit false fun j s => ife (Nat.beq j i) (matchSp L θ φ N S s) false
noncomputable def okEnd (C : Ctx) (fn : Func) (v : AV) (r : R) : Bool := isV (outCR r C fn) v
/-! ### Parts of code -/
def seqL : Code → Code
  | .seq a _ => a
  | _ => .skip
def seqR : Code → Code
  | .seq _ b => b
  | _ => .skip
def isSeq : Code → Bool
  | .seq _ _ => true
  | _ => false
def blkB : Code → Code
  | .block _ b => b
  | _ => .skip
def isBlk (i : Nat) : Code → Bool
  | .block j _ => Nat.beq j i
  | _ => false
def loopB : Code → Code
  | .loop b => b
  | _ => .skip
def isLoop : Code → Bool
  | .loop _ => true
  | _ => false
theorem isSeq_eq {c : Code} (h : isSeq c = true) : c = .seq (seqL c) (seqR c) := by
  cases c <;> first | rfl | cases h
theorem isBlk_eq {i : Nat} {c : Code} (h : isBlk i c = true) : c = .block i (blkB c) := by
  cases c with
  | block j b => have h' : Nat.beq j i = true := h; rw [Nat.beq_eq] at h'; subst h'; rfl
  | _ => cases h
theorem isLoop_eq {c : Code} (h : isLoop c = true) : c = .loop (loopB c) := by
  cases c <;> first | rfl | cases h
theorem codeOk_seq {N : Nat} {c : Code} (h : codeOk N c = true) : codeOk N (seqL c) = true ∧ codeOk N (seqR c) = true := by
  cases c with
  | seq a b =>
    have h' : (codeOk N a && codeOk N b) = true := h
    rw [Bool.and_eq_true] at h'; exact h'
  | _ => exact ⟨rfl, rfl⟩
theorem codeOk_blk {N : Nat} {c : Code} (h : codeOk N c = true) : codeOk N (blkB c) = true := by
  cases c <;> first | exact h | rfl
theorem codeOk_loop {N : Nat} {c : Code} (h : codeOk N c = true) : codeOk N (loopB c) = true := by
  cases c <;> first | exact h | rfl
noncomputable def dropS : Nat → Code → Code
  | 0, c => c
  | k + 1, c => dropS k (seqR c)
/-- The first parts. -/
noncomputable def runS (r : Run) : Nat → Code → St → R
  | 0, _, s => .norm s
  | k + 1, c, s => ife (isSeq c) ((r (seqL c) s).onNorm (.bad 300) (runS r k (seqR c))) (.bad 300)
theorem codeOk_drop {N : Nat} : ∀ {k : Nat} {c : Code}, codeOk N c = true → codeOk N (dropS k c) = true
  | 0, c, h => h
  | k + 1, c, h => codeOk_drop (k := k) (codeOk_seq h).2
section
variable {P : Program} {Q : Exit → Act → World → Prop} {a : Act} {w : World} {c : Code}
theorem wp_seqP (h : isSeq c = true) (h1 : (seqL c).wp P (Exit.then ((seqR c).wp P Q) Q) a w) : c.wp P Q a w := by
  rw [isSeq_eq h]; exact wp_seq h1
theorem wp_blkP {i : Nat} (h : isBlk i c = true) (h1 : (blkB c).wp P (Exit.inBlock i Q) a w) : c.wp P Q a w := by
  rw [isBlk_eq h]; exact wp_block h1
/-- A loop: rounds that end as they began, with less ahead; or it is left. -/
theorem wp_loopP (hl : isLoop c = true) (I : Nat → Act → World → Prop) {n : Nat} (h0 : I n a w)
    (round : ∀ n a w, I n a w → (loopB c).wp P (fun e a' w' => (e = .normal ∧ ∃ m, m < n ∧ I m a' w') ∨ (e ≠ .normal ∧ Q e a' w')) a w) : c.wp P Q a w := by
  rw [isLoop_eq hl]
  generalize loopB c = c' at round
  intro b k cs
  have key : ∀ n a w, I n a w → ∃ e a' w', Q e a' w' ∧ Arrives P (lone (b.at a (.code c' :: .inLoop c' :: k)) cs w) b k cs e a' w' := by
    intro n
    induction n using Nat.strongRecOn with
    | _ n ih =>
      intro a w hI
      obtain ⟨e, a1, w1, hq, harr⟩ := round n a w hI b (.inLoop c' :: k) cs
      rcases hq with ⟨rfl, m, hm, hI1⟩ | ⟨hne, hq⟩
      · obtain ⟨e2, a2, w2, hq2, harr2⟩ := ih m hm a1 w1 hI1
        exact ⟨e2, a2, w2, hq2, .of_steps (Steps.trans harr (.one step_inLoop)) harr2⟩
      · exact ⟨e, a1, w1, hq, .pass (x := .inLoop c') rfl (fun _ _ => .inl hne) harr⟩
  obtain ⟨e, a', w', hq, harr⟩ := key n a w h0
  exact ⟨e, a', w', hq, .of_steps (.one step_loop) harr⟩
end
section
variable {X : Nat → Prop} {W0 : World} {C C' C0 : Ctx} {E : Env} {N : Nat} {s : St} {a : Act} {w W : World} {S S2 : Sp} {σ : Nat → Int} {β : Nat → Bool} {fs : Nat → FS}
theorem ARel.ctx (h : ARel X W0 C E N s a w) (hfk : C'.fk = C.fk) (hk : ∀ p ∈ C'.know, p.1.den E = p.2) : ARel X W0 C' E N s a w := by
  have hs := h.heap
  exact ⟨⟨hs.own, hs.ro, hs.inj, hs.keep, hs.fresh, hs.lim, hs.ids, hs.it, ⟨hs.fk.one, by rw [hfk]; exact hs.fk.val, by rw [hfk]; exact hs.fk.cell⟩, hk, hs.os, hs.tape, hs.output⟩, h.tmps, h.dfr⟩
/-- What is asked of a run's surroundings. -/
structure Env0 (C : Ctx) (C0 : Ctx) (σ : Nat → Int) (β : Nat → Bool) (fs : Nat → FS) : Prop where
  ctx : CtxOk C
  prog : ProgOk C.P
  sil : ∀ f, C.silent.contains f = true → SilentOk C.P f
  facts : FactsOk C (Env.of σ β fs)
  know : ∀ p ∈ C.know, p.1.den (Env.of σ β fs) = p.2
  fk : C.fk = C0.fk
theorem At.into {σl : List Int} {βl : List Bool} (hA : At W C0 N S σl βl fs a w) (hn : Names σl βl σ β) (H : Env0 C C0 σ β fs) : ∃ E, Ext (Env.of σ β fs) E ∧ ARel (fun r => r < W.heap.size) W C E N S.st a w := by
  obtain ⟨ρ, h⟩ := hA
  refine ⟨⟨ρ, σ, β, fs⟩, ⟨fun b x e => (by cases e), rfl, rfl, rfl⟩, (h σ β hn).ctx (by rw [H.fk]; rfl) fun p hp => ?_⟩
  exact (Atom.den_same (E := Env.of σ β fs) (E' := ⟨ρ, σ, β, fs⟩) rfl rfl rfl p.1).trans (H.know p hp)
theorem At.out {E : Env} (hE : Ext (Env.of σ β fs) E) (hA : ARel (fun r => r < W.heap.size) W C E N s a w) (hfk : C.fk = C0.fk) (hN : N < 2 ^ 62) {L : List Nat} {θ : List SI} {φ : List SB} (hm : matchSp L θ φ N S2 s = true) : At W C0 N S2 (θ.map (·.den (Env.of σ β fs))) (φ.map (·.den (Env.of σ β fs))) fs a w := by
  refine ⟨fun b => (L[b]?).bind E.ρ, fun σ' β' hn => match_ok (E2 := ⟨fun b => (L[b]?).bind E.ρ, σ', β', fs⟩) hA ⟨fun b => rfl, fun i e he => ?_, fun i b hb => ?_, hE.fs.symm⟩ hm hN hfk.symm (fun p hp => by cases hp)⟩
  · show σ' i = e.den E
    rw [hn.σ i (e.den (Env.of σ β fs)) (by simp [he])]
    exact (SI.den_same (E := Env.of σ β fs) (E' := E) hE.σ hE.fs e).symm
  · show β' i = b.den E
    rw [hn.β i (b.den (Env.of σ β fs)) (by simp [hb])]
    exact (SB.den_same (E := Env.of σ β fs) (E' := E) hE.σ hE.β hE.fs b).symm
theorem At.eq {σl σl' : List Int} {βl βl' : List Bool} (h : At W C N S σl βl fs a w) (h1 : σl = σl') (h2 : βl = βl') : At W C N S σl' βl' fs a w := by subst h1 h2; exact h
/-- Code that is gone through to its end. -/
theorem run_norm {n : Nat} {c : Code} {L : List Nat} {θ : List SI} {φ : List SB} {σl : List Int} {βl : List Bool} (hA : At W C0 N S σl βl fs a w) (hn : Names σl βl σ β) (H : Env0 C C0 σ β fs) (hN : N < 2 ^ 62) (hcode : codeOk N c = true) (h : okNorm L θ φ N S2 (runA C n c S.st) = true) :
    c.wp C.P (fun e a' w' => e = .normal ∧ At W C0 N S2 (θ.map (·.den (Env.of σ β fs))) (φ.map (·.den (Env.of σ β fs))) fs a' w') a w := by
  obtain ⟨E, hE, hR⟩ := hA.into hn H
  unfold okNorm at h
  rw [R.onNorm_iff (by simp)] at h
  obtain ⟨s', h1, h2⟩ := h
  refine wp_mono (runA_ok H.ctx H.prog H.sil H.facts n N hN c hcode _ _ h1 (.inl ⟨_, rfl⟩) _ W E a w hE hR) fun e a' w' hw => ?_
  obtain ⟨s2, hends, E', k1, k2, _⟩ := hw
  rcases hends with ⟨j1, rfl⟩ | ⟨i, j1, rfl⟩ | ⟨l, j1, rfl⟩ | ⟨j1, rfl⟩
  · injection j1 with j1; subst j1
    exact ⟨rfl, At.out (hE.trans k1.ext) k2 H.fk hN h2⟩
  · cases j1
  · cases j1
  · cases j1
/-- Code that is left by an exit. -/
theorem run_exit {n i : Nat} {c : Code} {L : List Nat} {θ : List SI} {φ : List SB} {σl : List Int} {βl : List Bool} (hA : At W C0 N S σl βl fs a w) (hn : Names σl βl σ β) (H : Env0 C C0 σ β fs) (hN : N < 2 ^ 62) (hcode : codeOk N c = true) (h : okExit i L θ φ N S2 (runA C n c S.st) = true) :
    c.wp C.P (fun e a' w' => e = .exit i ∧ At W C0 N S2 (θ.map (·.den (Env.of σ β fs))) (φ.map (·.den (Env.of σ β fs))) fs a' w') a w := by
  obtain ⟨E, hE, hR⟩ := hA.into hn H
  unfold okExit at h
  rw [R.onExit_iff (by simp)] at h
  obtain ⟨j, s', h1, h2⟩ := h
  rw [ife_iff (by simp), Nat.beq_eq] at h2
  obtain ⟨rfl, h2⟩ := h2
  refine wp_mono (runA_ok H.ctx H.prog H.sil H.facts n N hN c hcode _ _ h1 (.inr (.inl ⟨_, _, rfl⟩)) _ W E a w hE hR) fun e a' w' hw => ?_
  obtain ⟨s2, hends, E', k1, k2, _⟩ := hw
  rcases hends with ⟨j1, rfl⟩ | ⟨i, j1, rfl⟩ | ⟨l, j1, rfl⟩ | ⟨j1, rfl⟩
  · cases j1
  · injection j1 with j1 j2; subst j1 j2
    exact ⟨rfl, At.out (hE.trans k1.ext) k2 H.fk hN h2⟩
  · cases j1
  · cases j1
/-- Code that ends the function. -/
theorem run_end {n : Nat} {c : Code} {fn : Func} {v : AV} {u : Value} {σl : List Int} {βl : List Bool} (hA : At W C0 N S σl βl fs a w) (hn : Names σl βl σ β) (H : Env0 C C0 σ β fs) (hN : N < 2 ^ 62) (hcode : codeOk N c = true) (h : okEnd C fn v (runA C n c S.st) = true) (hv : flat v = true) (hu : AV.valE (Env.of σ β fs) v = some u) :
    c.wp C.P (bodyPostD C.P fn fun e w' => e = .returned u ∧ Below W.heap.size W w') a w := by
  obtain ⟨E, hE, hR⟩ := hA.into hn H
  unfold okEnd at h
  obtain ⟨H', h⟩ := isV_ok h
  have good : ∀ s', (runA C n c S.st = .norm s' ∨ runA C n c S.st = .ret s') → finish C fn s' = .val v H' → c.wp C.P (bodyPostD C.P fn fun e w' => e = .returned u ∧ Below W.heap.size W w') a w := fun s' hs' hfin => by
    have hg : Good (runA C n c S.st) := by
      rcases hs' with e | e
      · exact .inl ⟨_, e⟩
      · exact .inr (.inr (.inr ⟨_, e⟩))
    refine wp_mono (runA_ok H.ctx H.prog H.sil H.facts n N hN c hcode _ _ rfl hg _ W E a w hE hR) fun e a' w' hw => ?_
    obtain ⟨s2, hends, E', k1, k2, k3, k4, k5⟩ := hw
    have key : s2 = s' → Leaves C.P fn a'.tmps (fun e w' => e = .returned u ∧ Below W.heap.size W w') a'.defers .returning w' := fun es => by
      subst es
      unfold finish at hfin
      rw [ife_iff (by simp)] at hfin
      obtain ⟨q1, q2⟩ := hfin
      obtain ⟨rfl, u', q3, q4⟩ := finish_ok (fn := fn) H.ctx k2.heap k2.tmps (v := v) (H' := H') (by rw [ife_true]; exact q2)
      have q5 := Rel.flat (E := E') (E' := Env.of σ β fs) (hE.trans k1.ext).σ.symm (hE.trans k1.ext).β.symm (hE.trans k1.ext).fs.symm v u' hv q4
      have q6 := (AV.valE_iff hu u').1 q5
      subst q6
      exact silent_ok H.sil H.prog s2.ds a'.defers k2.dfr q1 w' u' q3 ⟨rfl, below_of k2.heap⟩
    rcases hends with ⟨j1, rfl⟩ | ⟨i', j1, rfl⟩ | ⟨l, j1, rfl⟩ | ⟨j1, rfl⟩
    · refine key ?_
      rcases hs' with e | e
      · rw [j1] at e; injection e
      · rw [j1] at e; cases e
    · rcases hs' with e | e <;> (rw [j1] at e; cases e)
    · rcases hs' with e | e <;> (rw [j1] at e; cases e)
    · refine key ?_
      rcases hs' with e | e
      · rw [j1] at e; cases e
      · rw [j1] at e; injection e
  cases hrun : runA C n c S.st with
  | norm s' => rw [hrun] at h; exact good s' (.inl hrun) h
  | ret s' => rw [hrun] at h; exact good s' (.inr hrun) h
  | _ => rw [hrun] at h; cases h
/-- The first parts of a sequence. -/
theorem runS_norm {n : Nat} {Q : Exit → Act → World → Prop} {L : List Nat} {θ : List SI} {φ : List SB} (H : Env0 C C0 σ β fs) (hN : N < 2 ^ 62) : ∀ (k : Nat) (c : Code), codeOk N c = true → ∀ (s : St) (a : Act) (w : World) (E : Env), Ext (Env.of σ β fs) E → ARel (fun r => r < W.heap.size) W C E N s a w →
    okNorm L θ φ N S2 (runS (runA C n) k c s) = true → (∀ a' w', At W C0 N S2 (θ.map (·.den (Env.of σ β fs))) (φ.map (·.den (Env.of σ β fs))) fs a' w' → (dropS k c).wp C.P Q a' w') → c.wp C.P Q a w
  | 0, c, hc, s, a, w, E, hE, hR, h, hq => by
    exact hq a w (At.out hE hR H.fk hN h)
  | k + 1, c, hc, s, a, w, E, hE, hR, h, hq => by
    have h' : (ife (isSeq c) ((runA C n (seqL c) s).onNorm (.bad 300) (runS (runA C n) k (seqR c))) (.bad 300)).onNorm false (fun s => matchSp L θ φ N S2 s) = true := h
    rw [R.onNorm_iff (by simp)] at h'
    obtain ⟨s2, h1, h2⟩ := h'
    rw [ife_iff (by simp), R.onNorm_iff (by simp)] at h1
    obtain ⟨hs, s1, h3, h4⟩ := h1
    refine wp_seqP hs (wp_mono (runA_ok H.ctx H.prog H.sil H.facts n N hN (seqL c) (codeOk_seq hc).1 _ _ h3 (.inl ⟨_, rfl⟩) _ W E a w hE hR) fun e a' w' hw => ?_)
    obtain ⟨s3, hends, E', k1, k2, _⟩ := hw
    rcases hends with ⟨j1, rfl⟩ | ⟨i, j1, rfl⟩ | ⟨l, j1, rfl⟩ | ⟨j1, rfl⟩
    · injection j1 with j1; subst j1
      exact runS_norm H hN k (seqR c) (codeOk_seq hc).2 s1 a' w' E' (hE.trans k1.ext) k2 (by unfold okNorm; rw [R.onNorm_iff (by simp)]; exact ⟨s2, h4, h2⟩) hq
    · cases j1
    · cases j1
    · cases j1
theorem run_parts {n k : Nat} {c : Code} {Q : Exit → Act → World → Prop} {L : List Nat} {θ : List SI} {φ : List SB} {σl : List Int} {βl : List Bool} (hA : At W C0 N S σl βl fs a w) (hn : Names σl βl σ β) (H : Env0 C C0 σ β fs) (hN : N < 2 ^ 62) (hcode : codeOk N c = true) (h : okNorm L θ φ N S2 (runS (runA C n) k c S.st) = true)
    (hq : ∀ a' w', At W C0 N S2 (θ.map (·.den (Env.of σ β fs))) (φ.map (·.den (Env.of σ β fs))) fs a' w' → (dropS k c).wp C.P Q a' w') : c.wp C.P Q a w := by
  obtain ⟨E, hE, hR⟩ := hA.into hn H
  exact runS_norm H hN k c hcode _ a w E hE hR h hq
end
/-- Slots from i on. -/
noncomputable def slotsOf (i : Nat) : List AV → List (Nat × AV)
  | [] => []
  | a :: l => (i, a) :: slotsOf (i + 1) l
theorem slotsOf_mem : ∀ {l : List AV} {i t : Nat} {v : AV}, (t, v) ∈ slotsOf i l → ∃ j, t = i + j ∧ l[j]? = some v
  | a :: l, i, t, v, h => by
    rw [slotsOf, List.mem_cons] at h
    rcases h with h | h
    · injection h with h1 h2; subst h1 h2; exact ⟨0, rfl, rfl⟩
    · obtain ⟨j, h1, h2⟩ := slotsOf_mem h
      exact ⟨j + 1, by omega, by simpa using h2⟩
/-- A function is entered. -/
theorem call_at {C : Ctx} {σl : List Int} {βl : List Bool} {fs : Nat → FS} {f : Nat} {fn : Func} {c : Code} (hf : C.P.funcs[f]? = some fn) (hb : fn.body = some c) {args : List AV} {us : List Value} (hus : ∀ σ β, Names σl βl σ β → AV.valEs (Env.of σ β fs) args = some us) {w : World} {u : Value}
    (hfk : FOk (fun r => r < w.heap.size) w C (Env.of (fun _ => 0) (fun _ => false) fs)) (hl : us.length = args.length) (hlen : args.length ≤ fn.ntmps) (hN : fn.ntmps < 2 ^ 62)
    (h : ∀ a, At w C fn.ntmps ⟨slotsOf 0 args, []⟩ σl βl fs a w → c.wp C.P (bodyPostD C.P fn fun e w' => e = .returned u ∧ Below w.heap.size w w') a w) :
    Calls C.P f us.toArray w fun e w' => e = .returned u ∧ Below w.heap.size w w' := by
  refine calls_of_wp_defers hf hb (h _ ⟨fun _ => none, fun σ β hn => ?_⟩)
  have hR := (AV.valEs_iff (hus σ β hn) us).2 rfl
  refine ⟨SRel.start (C := C.more []) (E := ⟨fun _ => none, σ, β, fs⟩) w (fun _ => rfl) ⟨hfk.one, hfk.val, hfk.cell⟩ (fun p hp => by cases hp), ⟨by simp; omega, fun t v e => ?_⟩, rfl⟩
  have hm := tauOf_get (slotsOf 0 args) t v (fun p hp => by obtain ⟨t', v'⟩ := p; obtain ⟨j, h1, h2⟩ := slotsOf_mem hp; have := (List.getElem?_eq_some_iff.1 h2).1; simp only; omega) e
  obtain ⟨j, h1, h2⟩ := slotsOf_mem hm
  obtain ⟨x, h3, h4⟩ := hR.get j v h2
  refine ⟨x, ?_, h4⟩
  have hj : j < us.length := (List.getElem?_eq_some_iff.1 h3).1
  show (us.toArray ++ Array.replicate (fn.ntmps - us.toArray.size) undef)[t]? = _
  rw [h1, Nat.zero_add, Array.getElem?_append_left (by simpa using hj)]
  simpa using h3
end Go.Proofs.YtjebljnifeoiaaaGreat.Vm
