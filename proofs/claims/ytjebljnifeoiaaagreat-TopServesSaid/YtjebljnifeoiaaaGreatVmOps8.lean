/- The machine's operations are the model's: conversions. No condition but those each theorem names. -/
import Derived.Test.YtjebljnifeoiaaaGreatVmOps7
namespace Go.Proofs.YtjebljnifeoiaaaGreat.Vm
open Go
set_option linter.unusedVariables false
set_option linter.unusedSimpArgs false
section
variable {X : Nat → Prop} {W0 : World} {C : Ctx} {E : Env} {H H' : Heap} {w : World} {v : AV}
theorem run_seenAt {P : Program} {w : World} {r o : Nat} {D : Array Value} {t : TypeId} (h : w.heap[r]? = some (.cells D t (0, 0))) : (Conv.seenAt ⟨r, o, none⟩).run P w = .ok ⟨r, o, none⟩ w := by
  simp [Conv.seenAt, viewAt, World.shape?, h]
theorem xConvert_ok (hC : CtxOk C) (hs : SRel X W0 C E H w) {src dst : Nat} {x : Operand} {τ : Tm} {g : Operand → Value} (hx : Opds E τ g [x]) (h : xConvert src dst x C τ H = .val v H') :
    VOk X W0 C E H w (convert src dst (g x)) v H' := by
  unfold xConvert at h
  simp only [onSome_iff, ne_eq, reduceCtorEq, not_false_eq_true] at h
  obtain ⟨a, h1, d, h2, s, h3, h⟩ := h
  obtain ⟨I, hD⟩ := hC.tinf h2
  obtain ⟨J, hS⟩ := hC.tinf h3
  have ha := hx x (by simp) _ h1
  have hud := hD.run_und w
  have hus := hS.run_und w
  rw [AV.onInt_eq] at h
  split at h
  · rw [TypeDesc.onInt_iff (by simp)] at h
    obtain ⟨k, hd, h⟩ := h
    simp only [Rel] at ha
    refine intX_ok hs h ?_
    rw [ha]
    unfold convert
    simp only [Sem.run_bind, hus, hud, Result.andThen_ok, hd]
    simp [Conv.intToInt, IOp.den]
  · rw [AV.onStr_eq] at h
    split at h
    · rw [TypeDesc.onString_iff (by simp)] at h
      obtain ⟨hd, h⟩ := h
      injection h with h4 h5; subst h4 h5
      have ha' := ha
      simp only [Rel] at ha
      obtain ⟨q, e, _⟩ := ha
      refine VOk.same hs ?_ ha'
      rw [e]
      unfold convert
      simp only [Sem.run_bind, hus, hud, Result.andThen_ok, hd]
      simp
    · unfold convPtr at h
      rw [TypeDesc.onPointer_eq] at h
      split at h
      · rename_i t hsd
        rw [TypeDesc.onUnsafePointer_iff (by simp)] at h
        obtain ⟨hd, h⟩ := h
        have hcv : ∀ z, (convert src dst (.pointer z)).run C.P w = (Conv.unsafePointer src dst (.pointer z)).run C.P w := fun z => by
          unfold convert
          simp only [Sem.run_bind, hus, hud, Result.andThen_ok, hd, hsd]
        rw [AV.onPtr_eq] at h
        split at h
        · rename_i b o _ _
          simp only [onSome_iff, Blk.onCells_iff, ife_iff, ne_eq, reduceCtorEq, not_false_eq_true, Nat.blt_eq] at h
          obtain ⟨k, h4, e, ex, c, rfl, ti, h5, h6, h7, h8, h9⟩ := h
          injection h9 with h9 h10; subst h9 h10
          obtain ⟨K, hT⟩ := hC.tinf h5
          have ha' := ha
          simp only [Rel] at ha
          obtain ⟨r, ba, en, e1, ha⟩ := ha
          obtain ⟨r', ba', en', e2, D, g1, g2, g3, g4⟩ := hs.read h4
          rw [e1] at e2; injection e2 with e2; injection e2 with e2 e3; injection e3 with e3 e4; subst e2 e3 e4
          obtain ⟨g5, g6⟩ := g3 h6
          refine VOk.same hs ?_ ha'
          rw [ha, hcv]
          unfold Conv.unsafePointer
          simp only [Sem.run_bind, hus, hud, Result.andThen_ok, hd, hsd, run_seenAt g1, hT.run_size w]
          have hz : ¬ ti.size = 0 := by omega
          have hlt : ¬ D.size ≤ ba + o := by omega
          simp [cellsIn, World.shape?, g1, hz, hlt, hT.run_size w]
        · rw [AV.onNil_iff (by simp)] at h
          obtain ⟨rfl, h⟩ := h
          injection h with h9 h10; subst h9 h10
          have ha' := ha
          simp only [Rel] at ha
          refine VOk.same hs ?_ ha'
          rw [ha, hcv]
          unfold Conv.unsafePointer
          simp only [Sem.run_bind, hus, hud, Result.andThen_ok, hd, hsd]
          simp
      · rw [TypeDesc.onUnsafePointer_iff (by simp)] at h
        obtain ⟨hsd, h⟩ := h
        rw [TypeDesc.onPointer_iff (by simp)] at h
        obtain ⟨u, hd, h⟩ := h
        have hcv : ∀ z, (convert src dst (.pointer z)).run C.P w = (Conv.unsafePointer src dst (.pointer z)).run C.P w := fun z => by
          unfold convert
          simp only [Sem.run_bind, hus, hud, Result.andThen_ok, hd, hsd]
        rw [AV.onPtr_eq] at h
        split at h
        · rename_i b o _ _
          simp only [onSome_iff, Blk.onCells_iff, ife_iff, ne_eq, reduceCtorEq, not_false_eq_true, Nat.blt_eq] at h
          obtain ⟨ti, h5, k, h4, e, ex, c, rfl, h6, h7, h9⟩ := h
          injection h9 with h9 h10; subst h9 h10
          obtain ⟨K, hT⟩ := hC.tinf h5
          have ha' := ha
          simp only [Rel] at ha
          obtain ⟨r, ba, en, e1, ha⟩ := ha
          obtain ⟨r', ba', en', e2, D, g1, g2, g3, g4⟩ := hs.read h4
          rw [e1] at e2; injection e2 with e2; injection e2 with e2 e3; injection e3 with e3 e4; subst e2 e3 e4
          obtain ⟨g5, g6⟩ := g3 h6
          refine VOk.same hs ?_ ha'
          rw [ha, hcv]
          unfold Conv.unsafePointer
          simp only [Sem.run_bind, hus, hud, Result.andThen_ok, hd, hsd, run_seenAt g1, hT.run_size w]
          have hv : (variablesAt ⟨r, ba + o, none⟩ u 1).run C.P w = .ok true w := by
            have h8 : liesAt C.P C.P.depth e (D.size / C.P.cellsOf e) (ba + o) u 1 = true := by
              rw [g5, Nat.zero_add, ← g6]; exact h7
            simp [variablesAt, World.shape?, g1, h8]
          simp [hv]
        · rw [AV.onNil_iff (by simp)] at h
          obtain ⟨rfl, h⟩ := h
          injection h with h9 h10; subst h9 h10
          have ha' := ha
          simp only [Rel] at ha
          refine VOk.same hs ?_ ha'
          rw [ha, hcv]
          unfold Conv.unsafePointer
          simp only [Sem.run_bind, hus, hud, Result.andThen_ok, hd, hsd]
          simp
end
end Go.Proofs.YtjebljnifeoiaaaGreat.Vm
