/- The machine's operations are the model's: what a map holds, what is laid into it. No condition but those each theorem names. -/
import Derived.Test.YtjebljnifeoiaaaGreatVmOps9
namespace Go.Proofs.YtjebljnifeoiaaaGreat.Vm
open Go
set_option linter.unusedVariables false
set_option linter.unusedSimpArgs false
section
variable {X : Nat → Prop} {W0 : World} {C : Ctx} {E : Env} {H H' : Heap} {w : World} {v : AV}
theorem EntriesOk.cons {p : AV × AV} {es : List (AV × AV)} {M : List MapEntry} (h : EntriesOk E (p :: es) M) : ∃ e M', M = e :: M' ∧ Rel E p.1 e.key ∧ Rel E p.2 e.val ∧ EntriesOk E es M' := by
  cases M with
  | nil => have := h.len; simp at this
  | cons e M' =>
    obtain ⟨h1, h2⟩ := h.each 0 p e rfl rfl
    exact ⟨e, M', rfl, h1, h2, ⟨by have := h.len; simpa using this, fun i q f e1 e2 => h.each (i + 1) q f (by simpa using e1) (by simpa using e2)⟩⟩
/-- What the search finds. -/
structure Found (C : Ctx) (kt : Nat) (u : Value) (k : AV) (M : List MapEntry) (i : Nat) (w : World) (res : Option (Nat × Value)) : Prop where
  ask : (Instr.findAsking kt u M i).run C.P w = .ok res w
  now : ∀ kk x, k = .int kk (.lit x) → Instr.findNow (.int kk) u M i = some res
theorem findA_ok (hC : CtxOk C) (hs : SRel X W0 C E H w) {kt : Nat} {k : AV} {u : Value} (hk : keyOk C kt k = true) (hu : Rel E k u) {bad no r : R} {at_ : Nat → AV → R} (hb : bad ≠ r) :
    ∀ (es : List (AV × AV)) (M : List MapEntry) (i : Nat), EntriesOk E es M → findA es k i bad no at_ = r →
      (∃ j p e, es[j]? = some p ∧ M[j]? = some e ∧ p.1 = k ∧ at_ (i + j) p.2 = r ∧ Found C kt u k M i w (some (i + j, e.val))) ∨ (no = r ∧ Found C kt u k M i w none)
  | [], M, i, hM, h => by
    have h' : no = r := h
    have hM' : M = [] := List.length_eq_zero_iff.1 hM.len
    subst hM'
    exact .inr ⟨h', ⟨by simp [Instr.findAsking], fun _ _ _ => rfl⟩⟩
  | p :: es, M, i, hM, h => by
    have h' : (onSome (keyNow k p.1) bad fun q => ife q (at_ i p.2) (findA es k (i + 1) bad no at_)) = r := h
    rw [onSome_iff hb] at h'
    obtain ⟨q, h1, h2⟩ := h'
    obtain ⟨e, M', rfl, h3, h4, h5⟩ := hM.cons
    have heq := keyEq_ok hC hs hk h1 hu h3
    have hnow : ∀ kk x, k = .int kk (.lit x) → Instr.sameNow (.int kk) u e.key = some q := fun kk x e1 => by
      subst e1
      unfold keyNow at h1
      rw [AV.onAgg_eq] at h1
      obtain ⟨k', n, m, e1, e2, e3⟩ := keyCell_ok h1
      injection e1 with e1 e4; injection e4 with e4; subst e1 e4
      rw [e2] at h3
      simp only [Rel, SI.den] at h3 hu
      rw [hu, h3, e3, ieq_eq]
      simp only [Instr.sameNow, if_true]
      congr 1
    rw [ife_eq] at h2
    split at h2
    · rename_i hq
      subst hq
      refine .inl ⟨0, p, e, rfl, rfl, (keyNow_true h1).symm, h2, ⟨?_, fun kk x e1 => ?_⟩⟩
      · simp [Instr.findAsking, heq]
      · simp [Instr.findNow, hnow kk x e1]
    · rename_i hq
      have hq : q = false := by simpa using hq
      subst hq
      rcases findA_ok hC hs hk hu hb es M' (i + 1) h5 h2 with ⟨j, p', e', g1, g2, g3, g4, g5⟩ | ⟨g1, g5⟩
      · have hij : i + 1 + j = i + (j + 1) := by omega
        rw [hij] at g4 g5
        refine .inl ⟨j + 1, p', e', by simpa using g1, by simpa using g2, g3, g4, ⟨?_, fun kk x e1 => ?_⟩⟩
        · simp [Instr.findAsking, heq, g5.ask]
        · simp [Instr.findNow, hnow kk x e1, g5.now kk x e1]
      · refine .inr ⟨g1, ⟨?_, fun kk x e1 => ?_⟩⟩
        · simp [Instr.findAsking, heq, g5.ask]
        · simp [Instr.findNow, hnow kk x e1, g5.now kk x e1]
theorem findKey_ok (hC : CtxOk C) {kt : Nat} {k : AV} {u : Value} (hk : keyOk C kt k = true) (hu : Rel E k u) {M : List MapEntry} {res : Option (Nat × Value)} (h : Found C kt u k M 0 w res) : (Instr.findKey kt u M).run C.P w = .ok res w := by
  unfold keyOk at hk
  rw [onSome_iff (by simp)] at hk
  obtain ⟨i, h1, h2⟩ := hk
  obtain ⟨I, hT⟩ := hC.tinf h1
  unfold Instr.findKey
  simp only [Sem.run_bind, hT.run_und w, Result.andThen_ok]
  rw [AV.onAgg_eq] at h2
  split at h2
  · rename_i xs
    simp only [TypeDesc.onStruct_iff (show false ≠ true by simp)] at h2
    obtain ⟨fs, hd, h3⟩ := h2
    rw [hd]
    cases M with
    | nil =>
      have := h.ask
      simp [Instr.findAsking] at this
      simp [Instr.findNow, this]
    | cons e M =>
      have : Instr.findNow (.struct fs) u (e :: M) 0 = none := by simp [Instr.findNow, Instr.sameNow]
      rw [this]
      exact h.ask
  · obtain ⟨kk, n, hd, rfl⟩ := keyInt_ok h2
    rw [hd, h.now kk n rfl]
    rfl
theorem lookEnd_ok (hs : SRel X W0 C E H w) {ok b : Bool} {a : AV} {u : Value} (h : lookEnd ok a b H = .val v H') (ha : Rel E a u) : H' = H ∧ Rel E v (if ok then .tuple #[u, .bool b] else u) := by
  unfold lookEnd at h
  injection h with h1 h2
  refine ⟨h2.symm, ?_⟩
  rw [← h1, ife_eq]
  cases ok
  · exact ha
  · simp only [Rel]
    exact ⟨_, rfl, RelL.cons ha (RelL.cons (by simp [Rel, SB.den]) RelL.nil)⟩
theorem xLookup_ok (hC : CtxOk C) (hs : SRel X W0 C E H w) {t : Nat} {x ix : Operand} {ok : Bool} {τ : Tm} {g : Operand → Value} (hx : Opds E τ g [x, ix]) (h : xLookup t x ix ok C τ H = .val v H') :
    VOk X W0 C E H w (Instr.lookup t (g x) (g ix) ok) v H' := by
  unfold xLookup at h
  simp only [onSome_iff, TypeDesc.onMap_iff, ife_iff, ne_eq, reduceCtorEq, not_false_eq_true] at h
  obtain ⟨m, h1, k, h2, i, h3, kt, et, hd, ei, h4, h5, h6⟩ := h
  obtain ⟨I, hT⟩ := hC.tinf h3
  obtain ⟨J, hE⟩ := hC.tinf h4
  have hm := hx x (by simp) _ h1
  have hk := hx ix (by simp) _ h2
  have hck : ∀ em, (Instr.checkKey em 10000 kt (g ix)).run C.P w = .ok () w := fun em => checkKey_ok hC h5 hk em w
  rw [AV.onMap_eq] at h6
  split at h6
  · rename_i b
    simp only [onSome_iff, Blk.onMap_iff, ne_eq, reduceCtorEq, not_false_eq_true] at h6
    obtain ⟨q, h7, es, rfl, h8⟩ := h6
    obtain ⟨r, ba, en, e1, M, clk, g1, g2, g3, g4⟩ := hs.read h7
    simp only [Rel] at hm
    obtain ⟨r', ba', en', e2, hm⟩ := hm
    rw [e1] at e2; injection e2 with e2; injection e2 with e2 _; subst e2
    have hg : (getObj r).run C.P w = .ok (.map M clk) w := by simp [getObj, Sem.run, g1]
    have hstep : ∀ res, (Instr.findKey kt (g ix) M.toList).run C.P w = .ok res w → ∀ p : Value × Bool, (match res with | some (_, v) => (pure (v, true) : Sem (Value × Bool)) | none => do pure (← zeroValue et, false)).run C.P w = .ok p w →
        (Instr.lookup t (g x) (g ix) ok).run C.P w = .ok (if ok then .tuple #[p.1, .bool p.2] else p.1) w := fun res hr p hp => by
      unfold Instr.lookup
      rw [hm]
      simp only [Sem.run_bind, hT.run_und w, Result.andThen_ok, hd, hg, Sem.run_pure, hck, hr]
      cases res with
      | none =>
        simp only [Sem.run_bind, Sem.run_pure] at hp ⊢
        cases hz : (zeroValue et).run C.P w with
        | ok z w1 =>
          rw [hz] at hp
          simp only [Result.andThen_ok] at hp ⊢
          injection hp with hp1 hp2; subst hp1 hp2
          simp
        | halt _ _ => rw [hz] at hp; simp [Result.andThen] at hp
      | some res =>
        simp only [Sem.run_pure] at hp
        injection hp with hp1 hp2
        subst hp1
        simp
    rcases findA_ok hC hs h5 hk (by simp) es M.toList 0 g2 h8 with ⟨j, p, e, k1, k2, k3, k4, k5⟩ | ⟨k4, k5⟩
    · obtain ⟨_, hval⟩ := g2.each j p e k1 k2
      obtain ⟨rfl, hrel⟩ := lookEnd_ok hs k4 hval
      exact VOk.same hs (hstep _ (findKey_ok hC h5 hk k5) (e.val, true) rfl) hrel
    · rw [onSome_iff (by simp)] at k4
      obtain ⟨z, hz, k4⟩ := k4
      obtain ⟨u, hu, hzr⟩ := zv_ok (E := E) hE hz
      obtain ⟨rfl, hrel⟩ := lookEnd_ok hs k4 hzr
      exact VOk.same hs (hstep _ (findKey_ok hC h5 hk k5) (u, false) (by simp [hu w])) hrel
  · rw [AV.onNilm_iff (by simp)] at h6
    obtain ⟨rfl, h7⟩ := h6
    rw [onSome_iff (by simp)] at h7
    obtain ⟨z, hz, h8⟩ := h7
    obtain ⟨u, hu, hzr⟩ := zv_ok (E := E) hE hz
    obtain ⟨rfl, hrel⟩ := lookEnd_ok hs h8 hzr
    simp only [Rel] at hm
    have hf : (Instr.findKey kt (g ix) []).run C.P w = .ok none w := findKey_ok hC h5 hk ⟨by simp [Instr.findAsking], fun _ _ _ => rfl⟩
    refine VOk.same hs ?_ hrel
    unfold Instr.lookup
    rw [hm]
    simp only [Sem.run_bind, hT.run_und w, Result.andThen_ok, hd, Sem.run_pure, hck, hf, hu w]
end
end Go.Proofs.YtjebljnifeoiaaaGreat.Vm
