/- The machine's operations are the model's: maps. No condition but those each theorem names. -/
import Derived.Test.YtjebljnifeoiaaaGreatVmOps8
namespace Go.Proofs.YtjebljnifeoiaaaGreat.Vm
open Go
set_option linter.unusedVariables false
set_option linter.unusedSimpArgs false
section
variable {X : Nat → Prop} {W0 : World} {C : Ctx} {E : Env} {H H' : Heap} {w : World} {v : AV}
theorem keyInt_ok {d : TypeDesc} {k : AV} (h : keyInt d k = true) : ∃ kk n, d = .int kk ∧ k = .int kk (.lit n) := by
  unfold keyInt at h
  simp only [TypeDesc.onInt_iff, AV.onInt_iff, SI.onLit_iff, ne_eq, reduceCtorEq, not_false_eq_true, Bool.false_eq_true, Bool.true_eq] at h
  obtain ⟨kk, rfl, k', e, rfl, n, rfl, h⟩ := h
  obtain rfl := beqK_eq h
  exact ⟨kk, n, rfl, rfl⟩
theorem keyCell_ok {a b : AV} {q : Bool} (h : keyCell a b = some q) : ∃ k x y, a = .int k (.lit x) ∧ b = .int k (.lit y) ∧ q = ieq x y := by
  unfold keyCell at h
  simp only [AV.onInt_iff, SI.onLit_iff, ife_iff, ne_eq, reduceCtorEq, not_false_eq_true] at h
  obtain ⟨k, e, rfl, x, rfl, k', e', rfl, y, rfl, h1, h2⟩ := h
  obtain rfl := beqK_eq h1
  injection h2 with h2
  exact ⟨k, x, y, rfl, rfl, h2.symm⟩
theorem keyCells_true : ∀ {l m : List AV}, keyCells l m = some true → l = m
  | [], [], _ => rfl
  | a :: l, b :: m, h => by
    have h' : (onSome (keyCell a b) none fun q => ife q (keyCells l m) (some false)) = some true := h
    rw [onSome_iff (by simp)] at h'
    obtain ⟨q, h1, h2⟩ := h'
    obtain ⟨k, x, y, rfl, rfl, rfl⟩ := keyCell_ok h1
    rw [ife_eq] at h2
    split at h2
    · rename_i hq
      rw [ieq_eq] at hq
      rw [of_decide_eq_true hq, keyCells_true h2]
    · cases h2
  | [], _ :: _, h => by cases h
  | _ :: _, [], h => by cases h
theorem keyNow_true {a b : AV} (h : keyNow a b = some true) : a = b := by
  unfold keyNow at h
  rw [AV.onAgg_eq] at h
  split at h
  · rw [AV.onAgg_iff (by simp)] at h
    obtain ⟨ys, rfl, h⟩ := h
    rw [keyCells_true h]
  · obtain ⟨k, x, y, rfl, rfl, e⟩ := keyCell_ok h
    rw [ieq_eq] at e
    rw [of_decide_eq_true e.symm]
/-- Keys of numbers alone: a number, or a struct of them. -/
theorem keyFds_eq (hC : CtxOk C) {xs ys : List AV} : ∀ (l : List Field) (o : Nat) (cs ds : List AV) (q : Bool), keyFds C (fdsOf C.P l) o cs = true → xs.drop o = cs → ys.drop o = ds → keyCells cs ds = some q →
    eqFds (eqA C H 1) C xs ys (fdsOf C.P l) = .yes q
  | [], o, cs, ds, q, h, hx, hy, hk => by
    have h' : (onList cs true fun _ _ => false) = true := h
    cases cs with
    | cons => cases h'
    | nil =>
      cases ds with
      | cons => cases hk
      | nil => injection hk with hk; subst hk; rfl
  | f :: l, o, cs, ds, q, h, hx, hy, hk => by
    have h' : (onList cs false fun c cs => onSome (C.tinf f.type) false fun i => ife (keyInt i.d c) (ife (f.name == "_") false (ife (Nat.beq f.offset o) (keyFds C (fdsOf C.P l) (o + 1) cs) false)) false) = true := h
    cases cs with
    | nil => cases h'
    | cons c cs =>
      have h2 : (onSome (C.tinf f.type) false fun i => ife (keyInt i.d c) (ife (f.name == "_") false (ife (Nat.beq f.offset o) (keyFds C (fdsOf C.P l) (o + 1) cs) false)) false) = true := h'
      rw [onSome_iff (by simp)] at h2
      obtain ⟨i, h3, h4⟩ := h2
      rw [ife_iff (by simp)] at h4
      obtain ⟨h5, h6⟩ := h4
      rw [ife_eq] at h6
      split at h6
      · cases h6
      · rename_i hb
        rw [ife_iff (by simp), Nat.beq_eq] at h6
        obtain ⟨h7, h8⟩ := h6
        cases ds with
        | nil => cases hk
        | cons d ds =>
          have hk' : (onSome (keyCell c d) none fun q => ife q (keyCells cs ds) (some false)) = some q := hk
          rw [onSome_iff (by simp)] at hk'
          obtain ⟨q1, k1, k2⟩ := hk'
          obtain ⟨I, hT⟩ := hC.tinf h3
          obtain ⟨kk, n, hd, rfl⟩ := keyInt_ok h5
          obtain ⟨k, x, y, e1, rfl, rfl⟩ := keyCell_ok k1
          injection e1 with e1 e2; injection e2 with e2; subst e1 e2
          have hx0 : xs[o]? = some (.int kk (.lit n)) := by
            have := congrArg (fun l => l[0]?) hx; simpa using this
          have hy0 : ys[o]? = some (.int kk (.lit y)) := by
            have := congrArg (fun l => l[0]?) hy; simpa using this
          have hag : i.agg = false := by rw [hT.agg, hd]; rfl
          have hpart : ∀ (zs : List AV) (a : AV) (κ : AV → R), zs[o]? = some a → partA C f.type zs f.offset (.bad 33) κ = κ a := fun zs a κ e => by
            unfold partA
            rw [h3, onSome_some, hag, h7, nthA_eq, e]
            rfl
          show ife (f.name == "_") (eqFds (eqA C H 1) C xs ys (fdsOf C.P l)) (partA C f.type xs f.offset (.bad 33) fun x => partA C f.type ys f.offset (.bad 33) fun y => andER (eqA C H 1 f.type x y) (eqFds (eqA C H 1) C xs ys (fdsOf C.P l))) = .yes q
          rw [ife_eq, if_neg hb, hpart xs _ _ hx0, hpart ys _ _ hy0]
          have heq : eqA C H 1 f.type (.int kk (.lit n)) (.int kk (.lit y)) = .yes (ieq n y) := by
            show (onSome (C.tinf f.type) (.bad 33) fun i => eqD i.d C H (eqA C H 0) i (.int kk (.lit n)) (.int kk (.lit y))) = _
            rw [h3, onSome_some, hd]
            show eqInt C _ _ = _
            show ife (beqK kk kk) (decER (.eq (.lit n) (.lit y)) (decEq C (.lit n) (.lit y))) (.bad 33) = _
            rw [ife_eq, if_pos (by cases kk <;> rfl)]
            rfl
          rw [heq]
          show ife (ieq n y) (eqFds (eqA C H 1) C xs ys (fdsOf C.P l)) (.yes false) = _
          rw [ife_eq] at k2 ⊢
          split at k2
          · rename_i hq
            rw [if_pos hq]
            exact keyFds_eq hC l (o + 1) cs ds q h8 (by rw [← List.drop_drop, hx]; rfl) (by rw [← List.drop_drop, hy]; rfl) k2
          · rename_i hq
            rw [if_neg hq]
            injection k2 with k2; rw [k2]
theorem keyEq_ok (hC : CtxOk C) (hs : SRel X W0 C E H w) {kt : Nat} {a b : AV} {q : Bool} (h : keyOk C kt a = true) (hk : keyNow a b = some q) {x y : Value} (hx : Rel E a x) (hy : Rel E b y) : (Op.equal kt x y).run C.P w = .ok q w := by
  unfold keyOk at h
  rw [onSome_iff (by simp)] at h
  obtain ⟨i, h1, h2⟩ := h
  obtain ⟨I, hT⟩ := hC.tinf h1
  unfold keyNow at hk
  rw [AV.onAgg_eq] at hk
  split at hk
  · rename_i xs
    rw [AV.onAgg_iff (by simp)] at hk
    obtain ⟨ys, rfl, hk⟩ := hk
    rw [AV.onAgg_eq] at h2
    simp only [TypeDesc.onStruct_iff (show false ≠ true by simp)] at h2
    obtain ⟨fs, hd, h3⟩ := h2
    rw [ife_eq] at h3
    split at h3
    · cases h3
    · rename_i hst
      have hfl : i.flds = fdsOf C.P fs.toList := by rw [hT.flds, hd]; rfl
      rw [hfl] at h3
      have h4 := keyFds_eq (H := H) hC (xs := xs) (ys := ys) fs.toList 0 xs ys q h3 rfl rfl hk
      refine eqA_ok hC hs 2 10000 kt _ _ q (by omega) ?_ x y hx hy
      show (onSome (C.tinf kt) (.bad 33) fun i => eqD i.d C H (eqA C H 1) i (.agg xs) (.agg ys)) = _
      rw [h1, onSome_some, hd]
      show eqStruct C (eqA C H 1) i (.agg xs) (.agg ys) = _
      show ife i.stood (.bad 33) (eqFds (eqA C H 1) C xs ys i.flds) = _
      rw [ife_eq, if_neg hst, hfl]
      exact h4
  · rename_i hna
    obtain ⟨k, n, m, rfl, rfl, rfl⟩ := keyCell_ok hk
    obtain ⟨kk, n', hd, e⟩ := keyInt_ok (show keyInt i.d (.int k (.lit n)) = true from h2)
    simp only [Rel, SI.den] at hx hy
    subst hx hy
    have := run_equalIn_int w 9999 kt k kk n m (by rw [hT.und, hd])
    unfold Op.equal
    rw [show Op.maxDepth = 9999 + 1 from rfl, this, ieq_eq]
    congr 1
theorem checkFds_ok (hC : CtxOk C) {em : Bool} {d : Nat} {xs : List AV} {us : Array Value} (hx : RelL E xs us.toList) : ∀ (l : List Field) (o : Nat) (cs : List AV), keyFds C (fdsOf C.P l) o cs = true → xs.drop o = cs →
    (forIn l PUnit.unit fun (f : Field) (_ : PUnit) => (if f.name ≠ "_" then (do let a ← part f.type us f.offset; Instr.checkKey em (d + 1) f.type a; pure (ForInStep.yield PUnit.unit)) else pure (ForInStep.yield PUnit.unit) : Sem (ForInStep PUnit))).run C.P w = .ok PUnit.unit w
  | [], o, cs, h, e => by simp
  | f :: l, o, cs, h, e => by
    have h' : (onList cs false fun c cs => onSome (C.tinf f.type) false fun i => ife (keyInt i.d c) (ife (f.name == "_") false (ife (Nat.beq f.offset o) (keyFds C (fdsOf C.P l) (o + 1) cs) false)) false) = true := h
    cases cs with
    | nil => cases h'
    | cons c cs =>
      have h2 : (onSome (C.tinf f.type) false fun i => ife (keyInt i.d c) (ife (f.name == "_") false (ife (Nat.beq f.offset o) (keyFds C (fdsOf C.P l) (o + 1) cs) false)) false) = true := h'
      rw [onSome_iff (by simp)] at h2
      obtain ⟨i, h3, h4⟩ := h2
      rw [ife_iff (by simp)] at h4
      obtain ⟨h5, h6⟩ := h4
      rw [ife_eq] at h6
      split at h6
      · cases h6
      · rename_i hb
        rw [ife_iff (by simp), Nat.beq_eq] at h6
        obtain ⟨h7, h8⟩ := h6
        obtain ⟨I, hT⟩ := hC.tinf h3
        obtain ⟨kk, n, hd, rfl⟩ := keyInt_ok h5
        have hx0 : xs[o]? = some (.int kk (.lit n)) := by
          have := congrArg (fun l => l[0]?) e; simpa using this
        obtain ⟨u, hu, hr⟩ := hx.get o _ hx0
        simp only [Rel, SI.den] at hr
        have hp : (part f.type us f.offset).run C.P w = .ok (.int kk n) w := by
          have hag : isAggD i.d = false := by rw [hd]; rfl
          have hu' : us[o]? = some (.int kk n) := by rw [← hr]; simpa using hu
          unfold part
          simp only [Sem.run_bind, hT.run_agg w, Result.andThen_ok, hT.agg, hag]
          rw [h7]
          simp [hu']
        have hck : (Instr.checkKey em (d + 1) f.type (.int kk n)).run C.P w = .ok () w := by
          unfold Instr.checkKey
          simp only [Sem.run_bind, hT.run_und w, Result.andThen_ok, hd]
          rfl
        rw [List.forIn_cons]
        simp only [Sem.run_bind, Sem.run_ite, hp, hck, Result.andThen_ok, Sem.run_pure, ite_self]
        exact checkFds_ok hC hx l (o + 1) cs h8 (by rw [← List.drop_drop, e]; rfl)
theorem checkKey_ok (hC : CtxOk C) {kt : Nat} {a : AV} (h : keyOk C kt a = true) {x : Value} (hx : Rel E a x) (em : Bool) (w : World) : (Instr.checkKey em 10000 kt x).run C.P w = .ok () w := by
  unfold keyOk at h
  rw [onSome_iff (by simp)] at h
  obtain ⟨i, h1, h2⟩ := h
  obtain ⟨I, hT⟩ := hC.tinf h1
  rw [AV.onAgg_eq] at h2
  split at h2
  · rename_i xs
    simp only [TypeDesc.onStruct_iff (show false ≠ true by simp)] at h2
    obtain ⟨fs, hd, h3⟩ := h2
    rw [ife_eq] at h3
    split at h3
    · cases h3
    · have hfl : i.flds = fdsOf C.P fs.toList := by rw [hT.flds, hd]; rfl
      rw [hfl] at h3
      simp only [Rel] at hx
      obtain ⟨us, rfl, hx⟩ := hx
      have h4 := checkFds_ok (w := w) hC (em := em) (d := 9998) hx fs.toList 0 xs h3 rfl
      show (Instr.checkKey em (9999 + 1) kt (.agg us)).run C.P w = _
      unfold Instr.checkKey
      simp only [Sem.run_bind, hT.run_und w, Result.andThen_ok, hd]
      rw [← Array.forIn_toList]
      erw [h4]
      simp
  · obtain ⟨kk, n, hd, rfl⟩ := keyInt_ok h2
    simp only [Rel, SI.den] at hx
    subst hx
    show (Instr.checkKey em (9999 + 1) kt (.int kk n)).run C.P w = _
    unfold Instr.checkKey
    simp only [Sem.run_bind, hT.run_und w, Result.andThen_ok, hd]
    rfl
end
end Go.Proofs.YtjebljnifeoiaaaGreat.Vm
