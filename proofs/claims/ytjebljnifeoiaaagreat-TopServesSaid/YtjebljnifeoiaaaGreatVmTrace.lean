/- The machine's walk is the model's: a region that draws its order: what the machine does, operation by operation in the text's order. No condition but those each theorem names. -/
import Derived.Test.YtjebljnifeoiaaaGreatVmPlan
namespace Go.Proofs.YtjebljnifeoiaaaGreat.Vm
open Go
set_option linter.unusedVariables false
set_option linter.unusedSimpArgs false
/-- What becomes of an operation. -/
inductive Ev where
  | skip
  | pure (v : AV) (k : Option Blk)
  | read (v : AV)
  | eff (v : AV)
noncomputable def Ev.val : Ev → AV
  | .skip => .undef
  | .pure v _ => v
  | .read v => v
  | .eff v => v
def Ev.blk : Ev → Option Blk
  | .pure _ k => k
  | _ => none
def Ev.isEff : Ev → Prop
  | .eff _ => True
  | _ => False
noncomputable def absH (b : Nat) : Heap → List PendE → Heap
  | H, [] => H
  | H, p :: l => match bit b p.j with
    | true => absH b (H.put p.id (some p.k)) l
    | false => absH b H l
noncomputable def keepL (b : Nat) : List PendE → List PendE → List PendE
  | keep, [] => keep
  | keep, p :: l => match bit b p.j with
    | true => keepL b keep l
    | false => keepL b (p :: keep) l
noncomputable def allH : Heap → List PendE → Heap
  | H, [] => H
  | H, p :: l => allH (H.put p.id (some p.k)) l
theorem absorb_eq (b : Nat) (κ : Heap → List PendE → R) : ∀ (l : List PendE) (H : Heap) (keep : List PendE), absorb b κ H keep l = κ (absH b H l) (keepL b keep l)
  | [], H, keep => rfl
  | p :: l, H, keep => by
    have h : absorb b κ H keep (p :: l) = ife (bit b p.j) (H.setB p.id (some p.k) fun H => absorb b κ H keep l) (absorb b κ H (p :: keep) l) := rfl
    rw [h, Heap.setB_eq, absorb_eq b κ l, absorb_eq b κ l, absH, keepL]
    cases bit b p.j <;> rfl
theorem absorbAll_eq (κ : Heap → R) : ∀ (l : List PendE) (H : Heap), absorbAll κ H l = κ (allH H l)
  | [], H => rfl
  | p :: l, H => by
    have h : absorbAll κ H (p :: l) = H.setB p.id (some p.k) fun H => absorbAll κ H l := rfl
    rw [h, Heap.setB_eq, absorbAll_eq κ l]; rfl
theorem keepL_mem {b : Nat} : ∀ {l keep : List PendE} {p : PendE}, p ∈ keepL b keep l → p ∈ keep ∨ (p ∈ l ∧ bit b p.j = false)
  | [], keep, p, h => .inl h
  | q :: l, keep, p, h => by
    unfold keepL at h
    split at h
    · rcases keepL_mem h with h | ⟨h1, h2⟩
      · exact .inl h
      · exact .inr ⟨by simp [h1], h2⟩
    · rename_i hb
      rcases keepL_mem h with h | ⟨h1, h2⟩
      · rw [List.mem_cons] at h
        rcases h with rfl | h
        · exact .inr ⟨by simp, hb⟩
        · exact .inl h
      · exact .inr ⟨by simp [h1], h2⟩
noncomputable def DS.put (D : DS) (dst : Option Nat) (v : AV) : DS := ⟨putTm dst v D.τ, D.H, D.hist, D.rd, D.pend⟩
theorem putD_eq (dst : Option Nat) (v : AV) (D : DS) (κ : DS → R) : putD dst v D κ = κ (D.put dst v) := putT_eq dst v D.τ _
section
variable (C : Ctx) (r : Run) (all : List Oper) (ms : Tr Nat) (n0 : Nat)
/-- One operation. -/
inductive DStep (o : Oper) (j : Nat) (D : DS) : Ev → DS → Prop
  | skip (h : wantedA all o C D.τ = some false) : DStep o j D .skip (D.put o.dst .undef)
  | pure0 (v : AV) (H1 : Heap) (h : wantedA all o C D.τ = some true) (hx : exec o.op C D.τ ⟨.e, .e, n0 + j, n0 + j + 1, none⟩ = .val v H1) (hn : H1.next ≤ n0 + j + 1) : DStep o j D (.pure v none) (D.put o.dst v)
  | pure1 (v : AV) (H1 : Heap) (k : Blk) (h : wantedA all o C D.τ = some true) (hx : exec o.op C D.τ ⟨.e, .e, n0 + j, n0 + j + 1, none⟩ = .val v H1) (hn : H1.next ≤ n0 + j + 1) (hk : H1.tr.get (n0 + j) = some k) :
      DStep o j D (.pure v (some k)) (DS.put ⟨D.τ, D.H, D.hist, D.rd, ⟨j, n0 + j, k⟩ :: D.pend⟩ o.dst v)
  | read (v : AV) (K : Heap) (h : wantedA all o C D.τ = some true) (hr : isReader o.op = true) (hx : exec o.op C D.τ (absH (mask ms j) D.H D.pend) = .val v K) (hh : histOk C o.op D.τ v (mask ms j) D.hist = true) :
      DStep o j D (.read v) (DS.put ⟨D.τ, D.H, D.hist, ⟨j, o.op, D.τ, v⟩ :: D.rd, D.pend⟩ o.dst v)
  | eff (v : AV) (H' : Heap) (h : wantedA all o C D.τ = some true) (hl : lastIn (mask ms j) D.hist = true) (hx : effA C r o.op D.τ (absH (mask ms j) D.H D.pend) = .val v H') (hr : rdOk C (mask ms j) ⟨H'.tr, H'.ro, H'.next, H'.lim, D.H.it⟩ D.rd = true) :
      DStep o j D (.eff v) (DS.put ⟨D.τ, ⟨H'.tr, H'.ro, H'.next, H'.lim, D.H.it⟩, (j, D.H) :: D.hist, D.rd, keepL (mask ms j) [] D.pend⟩ o.dst v)
theorem drOp_cases {o : Oper} {j : Nat} {D : DS} {κ : DS → R} {out : R} (hg : Good out) (h : drOp C r all ms n0 o j D κ = out) : ∃ ev D', DStep C r all ms n0 o j D ev D' ∧ κ D' = out := by
  unfold drOp at h
  rw [onSome_iff (hg.bad _)] at h
  obtain ⟨q, h1, h2⟩ := h
  cases q with
  | false =>
    rw [ife_false, putD_eq] at h2
    exact ⟨_, _, .skip h1, h2⟩
  | true =>
    rw [ife_true] at h2
    have hread : ife (isReader o.op) (drRead C o j (mask ms j) D κ) (drEff C r o j (mask ms j) D κ) = out → ∃ ev D', DStep C r all ms n0 o j D ev D' ∧ κ D' = out := fun h2 => by
      rw [ife_eq] at h2
      split at h2
      · rename_i hr
        unfold drRead at h2
        rw [absorb_eq] at h2
        split at h2
        · rename_i v K hx
          rw [ife_iff (hg.bad _), putD_eq] at h2
          exact ⟨_, _, .read v K h1 hr hx h2.1, h2.2⟩
        · exact absurd h2 (hg.ask _)
        · exact absurd h2 (hg.bad _)
        · exact absurd h2 (hg.bad _)
      · unfold drEff at h2
        rw [ife_iff (hg.bad _), absorb_eq] at h2
        obtain ⟨h3, h4⟩ := h2
        obtain ⟨v, H', h5, h6⟩ := crOut_cases hg h4
        unfold drNext at h6
        rw [ife_iff (hg.bad _), putD_eq] at h6
        exact ⟨_, _, .eff v H' h1 h3 h5 h6.1, h6.2⟩
    split at h2
    · rename_i v H1 hx
      unfold drPure at h2
      rw [ife_iff (hg.bad _)] at h2
      obtain ⟨h3, h4⟩ := h2
      rw [Nat.ble_eq] at h3
      rw [getK_eq] at h4
      cases hk : H1.tr.get (Nat.add n0 j) with
      | none =>
        rw [hk, onSome_none, ife_iff (hg.bad _), putD_eq] at h4
        exact ⟨_, _, .pure0 v H1 h1 hx h3, h4.2⟩
      | some k =>
        rw [hk, onSome_some, putD_eq] at h4
        exact ⟨_, _, .pure1 v H1 k h1 hx h3 hk, h4⟩
    · exact absurd h2 (hg.ask _)
    · exact hread h2
theorem drawnGo_trace (ds : List (AV × List AV)) {out : R} (hg : Good out) : ∀ (l : List Oper) (j : Nat) (D : DS), drawnGo C r all ms n0 ds l j D = out →
    ∃ (Ds : Nat → DS) (ev : Nat → Ev), Ds j = D ∧ (∀ i o, l[i]? = some o → DStep C r all ms n0 o (j + i) (Ds (j + i)) (ev (j + i)) (Ds (j + i + 1))) ∧ out = .norm ⟨(Ds (j + l.length)).τ, allH (Ds (j + l.length)).H (Ds (j + l.length)).pend, ds⟩
  | [], j, D, h => by
    have h' : absorbAll (fun H => .norm ⟨D.τ, H, ds⟩) D.H D.pend = out := h
    rw [absorbAll_eq] at h'
    exact ⟨fun _ => D, fun _ => .skip, rfl, fun i o e => by simp at e, h'.symm⟩
  | o :: l, j, D, h => by
    have h' : drOp C r all ms n0 o j D (drawnGo C r all ms n0 ds l (j + 1)) = out := h
    obtain ⟨e, D', h1, h2⟩ := drOp_cases C r all ms n0 hg h'
    obtain ⟨Ds, ev, h3, h4, h5⟩ := drawnGo_trace ds hg l (j + 1) D' h2
    have hs : ∀ i, (fun k => if k = j then D else Ds k) (j + 1 + i) = Ds (j + 1 + i) := fun i => if_neg (by omega)
    refine ⟨fun k => if k = j then D else Ds k, fun k => if k = j then e else ev k, if_pos rfl, fun i o' ho => ?_, ?_⟩
    · cases i with
      | zero =>
        have : o = o' := by simpa using ho
        subst this
        simp only [Nat.add_zero, if_true, if_neg (show ¬ j + 1 = j by omega), h3]
        exact h1
      | succ i =>
        have := h4 i o' (by simpa using ho)
        rw [show j + (i + 1) = j + 1 + i by omega]
        simp only [if_neg (show ¬ j + 1 + i = j by omega), if_neg (show ¬ j + 1 + i + 1 = j by omega)]
        exact this
    · rw [h5, List.length_cons, show j + (l.length + 1) = j + 1 + l.length by omega]
      simp only [if_neg (show ¬ j + 1 + l.length = j by omega)]
end
mutual
theorem beqAV_eq : ∀ {a b : AV}, beqAV a b = true → a = b
  | .int k e, .int k' e', h => by simp only [beqAV, Bool.and_eq_true] at h; rw [beqK_eq h.1, beqSI_eq h.2]
  | .bool e, .bool e', h => by simp only [beqAV] at h; rw [beqSB_eq h]
  | .str l, .str l', h => by simp only [beqAV, beqNs_eq, decide_eq_true_eq] at h; rw [h]
  | .ptr p o, .ptr p' o', h => by simp only [beqAV, Bool.and_eq_true, Nat.beq_eq] at h; simp [h]
  | .nil, .nil, h => rfl
  | .slc p o n l x z, .slc p' o' n' l' x' z', h => by simp only [beqAV, Bool.and_eq_true, Nat.beq_eq] at h; obtain ⟨h1, h2, h3, h4, h5, h6⟩ := h; rw [h1, h2, h3, h4, beqB_eq h5, h6]
  | .etl p o n l, .etl p' o' n' l', h => by simp only [beqAV, Bool.and_eq_true, Nat.beq_eq] at h; simp [h]
  | .nils, .nils, h => rfl
  | .map p, .map p', h => by simp only [beqAV, Bool.and_eq_true, Nat.beq_eq] at h; simp [h]
  | .nilm, .nilm, h => rfl
  | .chan p, .chan p', h => by simp only [beqAV, Bool.and_eq_true, Nat.beq_eq] at h; simp [h]
  | .nilc, .nilc, h => rfl
  | .fn f cs, .fn f' cs', h => by simp only [beqAV, Bool.and_eq_true, Nat.beq_eq] at h; rw [h.1, beqAVs_eq h.2]
  | .nilf, .nilf, h => rfl
  | .iface t v, .iface t' v', h => by simp only [beqAV, Bool.and_eq_true, Nat.beq_eq] at h; rw [h.1, beqAV_eq h.2]
  | .nili, .nili, h => rfl
  | .agg cs, .agg cs', h => by simp only [beqAV] at h; rw [beqAVs_eq h]
  | .tup cs, .tup cs', h => by simp only [beqAV] at h; rw [beqAVs_eq h]
  | .fsl s, .fsl s', h => by simp only [beqAV, Bool.and_eq_true, Nat.beq_eq] at h; simp [h]
  | .fpt s i j, .fpt s' i' j', h => by simp only [beqAV, Bool.and_eq_true, Nat.beq_eq] at h; obtain ⟨h1, h2, h3⟩ := h; rw [h1, beqSI_eq h2, h3]
  | .int _ _, .bool _, h => by cases h
  | .int _ _, .str _, h => by cases h
  | .int _ _, .ptr _ _, h => by cases h
  | .int _ _, .nil, h => by cases h
  | .int _ _, .slc _ _ _ _ _ _, h => by cases h
  | .int _ _, .etl _ _ _ _, h => by cases h
  | .int _ _, .nils, h => by cases h
  | .int _ _, .map _, h => by cases h
  | .int _ _, .nilm, h => by cases h
  | .int _ _, .chan _, h => by cases h
  | .int _ _, .nilc, h => by cases h
  | .int _ _, .fn _ _, h => by cases h
  | .int _ _, .nilf, h => by cases h
  | .int _ _, .iface _ _, h => by cases h
  | .int _ _, .nili, h => by cases h
  | .int _ _, .agg _, h => by cases h
  | .int _ _, .tup _, h => by cases h
  | .int _ _, .fsl _, h => by cases h
  | .int _ _, .fpt _ _ _, h => by cases h
  | .bool _, .int _ _, h => by cases h
  | .bool _, .str _, h => by cases h
  | .bool _, .ptr _ _, h => by cases h
  | .bool _, .nil, h => by cases h
  | .bool _, .slc _ _ _ _ _ _, h => by cases h
  | .bool _, .etl _ _ _ _, h => by cases h
  | .bool _, .nils, h => by cases h
  | .bool _, .map _, h => by cases h
  | .bool _, .nilm, h => by cases h
  | .bool _, .chan _, h => by cases h
  | .bool _, .nilc, h => by cases h
  | .bool _, .fn _ _, h => by cases h
  | .bool _, .nilf, h => by cases h
  | .bool _, .iface _ _, h => by cases h
  | .bool _, .nili, h => by cases h
  | .bool _, .agg _, h => by cases h
  | .bool _, .tup _, h => by cases h
  | .bool _, .fsl _, h => by cases h
  | .bool _, .fpt _ _ _, h => by cases h
  | .str _, .int _ _, h => by cases h
  | .str _, .bool _, h => by cases h
  | .str _, .ptr _ _, h => by cases h
  | .str _, .nil, h => by cases h
  | .str _, .slc _ _ _ _ _ _, h => by cases h
  | .str _, .etl _ _ _ _, h => by cases h
  | .str _, .nils, h => by cases h
  | .str _, .map _, h => by cases h
  | .str _, .nilm, h => by cases h
  | .str _, .chan _, h => by cases h
  | .str _, .nilc, h => by cases h
  | .str _, .fn _ _, h => by cases h
  | .str _, .nilf, h => by cases h
  | .str _, .iface _ _, h => by cases h
  | .str _, .nili, h => by cases h
  | .str _, .agg _, h => by cases h
  | .str _, .tup _, h => by cases h
  | .str _, .fsl _, h => by cases h
  | .str _, .fpt _ _ _, h => by cases h
  | .ptr _ _, .int _ _, h => by cases h
  | .ptr _ _, .bool _, h => by cases h
  | .ptr _ _, .str _, h => by cases h
  | .ptr _ _, .nil, h => by cases h
  | .ptr _ _, .slc _ _ _ _ _ _, h => by cases h
  | .ptr _ _, .etl _ _ _ _, h => by cases h
  | .ptr _ _, .nils, h => by cases h
  | .ptr _ _, .map _, h => by cases h
  | .ptr _ _, .nilm, h => by cases h
  | .ptr _ _, .chan _, h => by cases h
  | .ptr _ _, .nilc, h => by cases h
  | .ptr _ _, .fn _ _, h => by cases h
  | .ptr _ _, .nilf, h => by cases h
  | .ptr _ _, .iface _ _, h => by cases h
  | .ptr _ _, .nili, h => by cases h
  | .ptr _ _, .agg _, h => by cases h
  | .ptr _ _, .tup _, h => by cases h
  | .ptr _ _, .fsl _, h => by cases h
  | .ptr _ _, .fpt _ _ _, h => by cases h
  | .nil, .int _ _, h => by cases h
  | .nil, .bool _, h => by cases h
  | .nil, .str _, h => by cases h
  | .nil, .ptr _ _, h => by cases h
  | .nil, .slc _ _ _ _ _ _, h => by cases h
  | .nil, .etl _ _ _ _, h => by cases h
  | .nil, .nils, h => by cases h
  | .nil, .map _, h => by cases h
  | .nil, .nilm, h => by cases h
  | .nil, .chan _, h => by cases h
  | .nil, .nilc, h => by cases h
  | .nil, .fn _ _, h => by cases h
  | .nil, .nilf, h => by cases h
  | .nil, .iface _ _, h => by cases h
  | .nil, .nili, h => by cases h
  | .nil, .agg _, h => by cases h
  | .nil, .tup _, h => by cases h
  | .nil, .fsl _, h => by cases h
  | .nil, .fpt _ _ _, h => by cases h
  | .slc _ _ _ _ _ _, .int _ _, h => by cases h
  | .slc _ _ _ _ _ _, .bool _, h => by cases h
  | .slc _ _ _ _ _ _, .str _, h => by cases h
  | .slc _ _ _ _ _ _, .ptr _ _, h => by cases h
  | .slc _ _ _ _ _ _, .nil, h => by cases h
  | .slc _ _ _ _ _ _, .etl _ _ _ _, h => by cases h
  | .slc _ _ _ _ _ _, .nils, h => by cases h
  | .slc _ _ _ _ _ _, .map _, h => by cases h
  | .slc _ _ _ _ _ _, .nilm, h => by cases h
  | .slc _ _ _ _ _ _, .chan _, h => by cases h
  | .slc _ _ _ _ _ _, .nilc, h => by cases h
  | .slc _ _ _ _ _ _, .fn _ _, h => by cases h
  | .slc _ _ _ _ _ _, .nilf, h => by cases h
  | .slc _ _ _ _ _ _, .iface _ _, h => by cases h
  | .slc _ _ _ _ _ _, .nili, h => by cases h
  | .slc _ _ _ _ _ _, .agg _, h => by cases h
  | .slc _ _ _ _ _ _, .tup _, h => by cases h
  | .slc _ _ _ _ _ _, .fsl _, h => by cases h
  | .slc _ _ _ _ _ _, .fpt _ _ _, h => by cases h
  | .etl _ _ _ _, .int _ _, h => by cases h
  | .etl _ _ _ _, .bool _, h => by cases h
  | .etl _ _ _ _, .str _, h => by cases h
  | .etl _ _ _ _, .ptr _ _, h => by cases h
  | .etl _ _ _ _, .nil, h => by cases h
  | .etl _ _ _ _, .slc _ _ _ _ _ _, h => by cases h
  | .etl _ _ _ _, .nils, h => by cases h
  | .etl _ _ _ _, .map _, h => by cases h
  | .etl _ _ _ _, .nilm, h => by cases h
  | .etl _ _ _ _, .chan _, h => by cases h
  | .etl _ _ _ _, .nilc, h => by cases h
  | .etl _ _ _ _, .fn _ _, h => by cases h
  | .etl _ _ _ _, .nilf, h => by cases h
  | .etl _ _ _ _, .iface _ _, h => by cases h
  | .etl _ _ _ _, .nili, h => by cases h
  | .etl _ _ _ _, .agg _, h => by cases h
  | .etl _ _ _ _, .tup _, h => by cases h
  | .etl _ _ _ _, .fsl _, h => by cases h
  | .etl _ _ _ _, .fpt _ _ _, h => by cases h
  | .nils, .int _ _, h => by cases h
  | .nils, .bool _, h => by cases h
  | .nils, .str _, h => by cases h
  | .nils, .ptr _ _, h => by cases h
  | .nils, .nil, h => by cases h
  | .nils, .slc _ _ _ _ _ _, h => by cases h
  | .nils, .etl _ _ _ _, h => by cases h
  | .nils, .map _, h => by cases h
  | .nils, .nilm, h => by cases h
  | .nils, .chan _, h => by cases h
  | .nils, .nilc, h => by cases h
  | .nils, .fn _ _, h => by cases h
  | .nils, .nilf, h => by cases h
  | .nils, .iface _ _, h => by cases h
  | .nils, .nili, h => by cases h
  | .nils, .agg _, h => by cases h
  | .nils, .tup _, h => by cases h
  | .nils, .fsl _, h => by cases h
  | .nils, .fpt _ _ _, h => by cases h
  | .map _, .int _ _, h => by cases h
  | .map _, .bool _, h => by cases h
  | .map _, .str _, h => by cases h
  | .map _, .ptr _ _, h => by cases h
  | .map _, .nil, h => by cases h
  | .map _, .slc _ _ _ _ _ _, h => by cases h
  | .map _, .etl _ _ _ _, h => by cases h
  | .map _, .nils, h => by cases h
  | .map _, .nilm, h => by cases h
  | .map _, .chan _, h => by cases h
  | .map _, .nilc, h => by cases h
  | .map _, .fn _ _, h => by cases h
  | .map _, .nilf, h => by cases h
  | .map _, .iface _ _, h => by cases h
  | .map _, .nili, h => by cases h
  | .map _, .agg _, h => by cases h
  | .map _, .tup _, h => by cases h
  | .map _, .fsl _, h => by cases h
  | .map _, .fpt _ _ _, h => by cases h
  | .nilm, .int _ _, h => by cases h
  | .nilm, .bool _, h => by cases h
  | .nilm, .str _, h => by cases h
  | .nilm, .ptr _ _, h => by cases h
  | .nilm, .nil, h => by cases h
  | .nilm, .slc _ _ _ _ _ _, h => by cases h
  | .nilm, .etl _ _ _ _, h => by cases h
  | .nilm, .nils, h => by cases h
  | .nilm, .map _, h => by cases h
  | .nilm, .chan _, h => by cases h
  | .nilm, .nilc, h => by cases h
  | .nilm, .fn _ _, h => by cases h
  | .nilm, .nilf, h => by cases h
  | .nilm, .iface _ _, h => by cases h
  | .nilm, .nili, h => by cases h
  | .nilm, .agg _, h => by cases h
  | .nilm, .tup _, h => by cases h
  | .nilm, .fsl _, h => by cases h
  | .nilm, .fpt _ _ _, h => by cases h
  | .chan _, .int _ _, h => by cases h
  | .chan _, .bool _, h => by cases h
  | .chan _, .str _, h => by cases h
  | .chan _, .ptr _ _, h => by cases h
  | .chan _, .nil, h => by cases h
  | .chan _, .slc _ _ _ _ _ _, h => by cases h
  | .chan _, .etl _ _ _ _, h => by cases h
  | .chan _, .nils, h => by cases h
  | .chan _, .map _, h => by cases h
  | .chan _, .nilm, h => by cases h
  | .chan _, .nilc, h => by cases h
  | .chan _, .fn _ _, h => by cases h
  | .chan _, .nilf, h => by cases h
  | .chan _, .iface _ _, h => by cases h
  | .chan _, .nili, h => by cases h
  | .chan _, .agg _, h => by cases h
  | .chan _, .tup _, h => by cases h
  | .chan _, .fsl _, h => by cases h
  | .chan _, .fpt _ _ _, h => by cases h
  | .nilc, .int _ _, h => by cases h
  | .nilc, .bool _, h => by cases h
  | .nilc, .str _, h => by cases h
  | .nilc, .ptr _ _, h => by cases h
  | .nilc, .nil, h => by cases h
  | .nilc, .slc _ _ _ _ _ _, h => by cases h
  | .nilc, .etl _ _ _ _, h => by cases h
  | .nilc, .nils, h => by cases h
  | .nilc, .map _, h => by cases h
  | .nilc, .nilm, h => by cases h
  | .nilc, .chan _, h => by cases h
  | .nilc, .fn _ _, h => by cases h
  | .nilc, .nilf, h => by cases h
  | .nilc, .iface _ _, h => by cases h
  | .nilc, .nili, h => by cases h
  | .nilc, .agg _, h => by cases h
  | .nilc, .tup _, h => by cases h
  | .nilc, .fsl _, h => by cases h
  | .nilc, .fpt _ _ _, h => by cases h
  | .fn _ _, .int _ _, h => by cases h
  | .fn _ _, .bool _, h => by cases h
  | .fn _ _, .str _, h => by cases h
  | .fn _ _, .ptr _ _, h => by cases h
  | .fn _ _, .nil, h => by cases h
  | .fn _ _, .slc _ _ _ _ _ _, h => by cases h
  | .fn _ _, .etl _ _ _ _, h => by cases h
  | .fn _ _, .nils, h => by cases h
  | .fn _ _, .map _, h => by cases h
  | .fn _ _, .nilm, h => by cases h
  | .fn _ _, .chan _, h => by cases h
  | .fn _ _, .nilc, h => by cases h
  | .fn _ _, .nilf, h => by cases h
  | .fn _ _, .iface _ _, h => by cases h
  | .fn _ _, .nili, h => by cases h
  | .fn _ _, .agg _, h => by cases h
  | .fn _ _, .tup _, h => by cases h
  | .fn _ _, .fsl _, h => by cases h
  | .fn _ _, .fpt _ _ _, h => by cases h
  | .nilf, .int _ _, h => by cases h
  | .nilf, .bool _, h => by cases h
  | .nilf, .str _, h => by cases h
  | .nilf, .ptr _ _, h => by cases h
  | .nilf, .nil, h => by cases h
  | .nilf, .slc _ _ _ _ _ _, h => by cases h
  | .nilf, .etl _ _ _ _, h => by cases h
  | .nilf, .nils, h => by cases h
  | .nilf, .map _, h => by cases h
  | .nilf, .nilm, h => by cases h
  | .nilf, .chan _, h => by cases h
  | .nilf, .nilc, h => by cases h
  | .nilf, .fn _ _, h => by cases h
  | .nilf, .iface _ _, h => by cases h
  | .nilf, .nili, h => by cases h
  | .nilf, .agg _, h => by cases h
  | .nilf, .tup _, h => by cases h
  | .nilf, .fsl _, h => by cases h
  | .nilf, .fpt _ _ _, h => by cases h
  | .iface _ _, .int _ _, h => by cases h
  | .iface _ _, .bool _, h => by cases h
  | .iface _ _, .str _, h => by cases h
  | .iface _ _, .ptr _ _, h => by cases h
  | .iface _ _, .nil, h => by cases h
  | .iface _ _, .slc _ _ _ _ _ _, h => by cases h
  | .iface _ _, .etl _ _ _ _, h => by cases h
  | .iface _ _, .nils, h => by cases h
  | .iface _ _, .map _, h => by cases h
  | .iface _ _, .nilm, h => by cases h
  | .iface _ _, .chan _, h => by cases h
  | .iface _ _, .nilc, h => by cases h
  | .iface _ _, .fn _ _, h => by cases h
  | .iface _ _, .nilf, h => by cases h
  | .iface _ _, .nili, h => by cases h
  | .iface _ _, .agg _, h => by cases h
  | .iface _ _, .tup _, h => by cases h
  | .iface _ _, .fsl _, h => by cases h
  | .iface _ _, .fpt _ _ _, h => by cases h
  | .nili, .int _ _, h => by cases h
  | .nili, .bool _, h => by cases h
  | .nili, .str _, h => by cases h
  | .nili, .ptr _ _, h => by cases h
  | .nili, .nil, h => by cases h
  | .nili, .slc _ _ _ _ _ _, h => by cases h
  | .nili, .etl _ _ _ _, h => by cases h
  | .nili, .nils, h => by cases h
  | .nili, .map _, h => by cases h
  | .nili, .nilm, h => by cases h
  | .nili, .chan _, h => by cases h
  | .nili, .nilc, h => by cases h
  | .nili, .fn _ _, h => by cases h
  | .nili, .nilf, h => by cases h
  | .nili, .iface _ _, h => by cases h
  | .nili, .agg _, h => by cases h
  | .nili, .tup _, h => by cases h
  | .nili, .fsl _, h => by cases h
  | .nili, .fpt _ _ _, h => by cases h
  | .agg _, .int _ _, h => by cases h
  | .agg _, .bool _, h => by cases h
  | .agg _, .str _, h => by cases h
  | .agg _, .ptr _ _, h => by cases h
  | .agg _, .nil, h => by cases h
  | .agg _, .slc _ _ _ _ _ _, h => by cases h
  | .agg _, .etl _ _ _ _, h => by cases h
  | .agg _, .nils, h => by cases h
  | .agg _, .map _, h => by cases h
  | .agg _, .nilm, h => by cases h
  | .agg _, .chan _, h => by cases h
  | .agg _, .nilc, h => by cases h
  | .agg _, .fn _ _, h => by cases h
  | .agg _, .nilf, h => by cases h
  | .agg _, .iface _ _, h => by cases h
  | .agg _, .nili, h => by cases h
  | .agg _, .tup _, h => by cases h
  | .agg _, .fsl _, h => by cases h
  | .agg _, .fpt _ _ _, h => by cases h
  | .tup _, .int _ _, h => by cases h
  | .tup _, .bool _, h => by cases h
  | .tup _, .str _, h => by cases h
  | .tup _, .ptr _ _, h => by cases h
  | .tup _, .nil, h => by cases h
  | .tup _, .slc _ _ _ _ _ _, h => by cases h
  | .tup _, .etl _ _ _ _, h => by cases h
  | .tup _, .nils, h => by cases h
  | .tup _, .map _, h => by cases h
  | .tup _, .nilm, h => by cases h
  | .tup _, .chan _, h => by cases h
  | .tup _, .nilc, h => by cases h
  | .tup _, .fn _ _, h => by cases h
  | .tup _, .nilf, h => by cases h
  | .tup _, .iface _ _, h => by cases h
  | .tup _, .nili, h => by cases h
  | .tup _, .agg _, h => by cases h
  | .tup _, .fsl _, h => by cases h
  | .tup _, .fpt _ _ _, h => by cases h
  | .fsl _, .int _ _, h => by cases h
  | .fsl _, .bool _, h => by cases h
  | .fsl _, .str _, h => by cases h
  | .fsl _, .ptr _ _, h => by cases h
  | .fsl _, .nil, h => by cases h
  | .fsl _, .slc _ _ _ _ _ _, h => by cases h
  | .fsl _, .etl _ _ _ _, h => by cases h
  | .fsl _, .nils, h => by cases h
  | .fsl _, .map _, h => by cases h
  | .fsl _, .nilm, h => by cases h
  | .fsl _, .chan _, h => by cases h
  | .fsl _, .nilc, h => by cases h
  | .fsl _, .fn _ _, h => by cases h
  | .fsl _, .nilf, h => by cases h
  | .fsl _, .iface _ _, h => by cases h
  | .fsl _, .nili, h => by cases h
  | .fsl _, .agg _, h => by cases h
  | .fsl _, .tup _, h => by cases h
  | .fsl _, .fpt _ _ _, h => by cases h
  | .fpt _ _ _, .int _ _, h => by cases h
  | .fpt _ _ _, .bool _, h => by cases h
  | .fpt _ _ _, .str _, h => by cases h
  | .fpt _ _ _, .ptr _ _, h => by cases h
  | .fpt _ _ _, .nil, h => by cases h
  | .fpt _ _ _, .slc _ _ _ _ _ _, h => by cases h
  | .fpt _ _ _, .etl _ _ _ _, h => by cases h
  | .fpt _ _ _, .nils, h => by cases h
  | .fpt _ _ _, .map _, h => by cases h
  | .fpt _ _ _, .nilm, h => by cases h
  | .fpt _ _ _, .chan _, h => by cases h
  | .fpt _ _ _, .nilc, h => by cases h
  | .fpt _ _ _, .fn _ _, h => by cases h
  | .fpt _ _ _, .nilf, h => by cases h
  | .fpt _ _ _, .iface _ _, h => by cases h
  | .fpt _ _ _, .nili, h => by cases h
  | .fpt _ _ _, .agg _, h => by cases h
  | .fpt _ _ _, .tup _, h => by cases h
  | .fpt _ _ _, .fsl _, h => by cases h
theorem beqAVs_eq : ∀ {a b : List AV}, beqAVs a b = true → a = b
  | [], [], _ => rfl
  | a :: l, b :: m, h => by simp only [beqAVs, Bool.and_eq_true] at h; rw [beqAV_eq h.1, beqAVs_eq h.2]
  | [], _ :: _, h => by cases h
  | _ :: _, [], h => by cases h
end
theorem sameX_iff {C : Ctx} {op : Op} {τ : Tm} {v : AV} {H : Heap} (h : sameX C op τ v H = true) : ∃ K, exec op C τ H = .val v K := by
  unfold sameX at h
  split at h
  · rename_i v' K hx
    exact ⟨K, by rw [hx, beqAV_eq h]⟩
  · cases h
theorem histOk_mem {C : Ctx} {op : Op} {τ : Tm} {v : AV} {b : Nat} : ∀ {l : List (Nat × Heap)}, histOk C op τ v b l = true → ∀ e H, (e, H) ∈ l → bit b e = false → ∃ K, exec op C τ H = .val v K
  | [], _, e, H, hm, _ => by simp at hm
  | p :: l, h, e, H, hm, hb => by
    have h' : (ife (bit b p.1) true (sameX C op τ v p.2) && histOk C op τ v b l) = true := h
    rw [Bool.and_eq_true] at h'
    rw [List.mem_cons] at hm
    rcases hm with rfl | hm
    · have := h'.1
      rw [hb, ife_false] at this
      exact sameX_iff this
    · exact histOk_mem h'.2 e H hm hb
theorem rdOk_mem {C : Ctx} {b : Nat} {H : Heap} : ∀ {l : List RdE}, rdOk C b H l = true → ∀ x, x ∈ l → bit b x.j = false → ∃ K, exec x.op C x.τ H = .val x.v K
  | [], _, x, hm, _ => by simp at hm
  | p :: l, h, x, hm, hb => by
    have h' : (ife (bit b p.j) true (sameX C p.op p.τ p.v H) && rdOk C b H l) = true := h
    rw [Bool.and_eq_true] at h'
    rw [List.mem_cons] at hm
    rcases hm with rfl | hm
    · have := h'.1
      rw [hb, ife_false] at this
      exact sameX_iff this
    · exact rdOk_mem h'.2 x hm hb
end Go.Proofs.YtjebljnifeoiaaaGreat.Vm
