/- The machine's operations are the model's: equality, all operations on two operands. No condition but those each theorem names. -/
import Derived.Test.YtjebljnifeoiaaaGreatVmOps6
namespace Go.Proofs.YtjebljnifeoiaaaGreat.Vm
open Go
set_option linter.unusedVariables false
set_option linter.unusedSimpArgs false
section
variable {X : Nat → Prop} {W0 : World} {C : Ctx} {E : Env} {H H' : Heap} {w : World} {v : AV}
theorem andER_iff {x κ : R} {r : Bool} (h : andER x κ = .yes r) : (x = .yes true ∧ κ = .yes r) ∨ (x = .yes false ∧ r = false) := by
  cases x with
  | yes b =>
    have h' : ife b κ (.yes false) = .yes r := h
    cases b with
    | true => exact .inl ⟨rfl, h'⟩
    | false => have h2 : R.yes false = .yes r := h'; injection h2 with h2; exact .inr ⟨rfl, h2.symm⟩
  | bad n => exact absurd h (by show R.bad n ≠ _; simp)
  | ask a => exact absurd h (by show R.ask a ≠ _; simp)
  | _ => exact absurd h (by show R.bad 232 ≠ _; simp)
theorem decER_iff {a : Atom} {o : Option Bool} {r : Bool} (h : decER a o = .yes r) : o = some r := by
  unfold decER at h
  rw [onSome_iff (by simp)] at h
  obtain ⟨b, rfl, h⟩ := h
  injection h with h; subst h; rfl
/-- Values that are related, alike or not. -/
def EqOk (C : Ctx) (E : Env) (w : World) (d : Nat) (t : Nat) (a b : AV) (r : Bool) : Prop := ∀ x y, Rel E a x → Rel E b y → (Op.equalIn d t x y).run C.P w = .ok r w
theorem eqInt_ok (hs : SRel X W0 C E H w) {t d : Nat} {k0 : IntKind} (hu : C.P.underlying t = some (.int k0)) {a b : AV} {r : Bool} (h : eqInt C a b = .yes r) : EqOk C E w (d + 1) t a b r := by
  unfold eqInt at h
  simp only [AV.onInt_iff, ife_iff, ne_eq, reduceCtorEq, not_false_eq_true] at h
  obtain ⟨k, e, rfl, k', e', rfl, h1, h2⟩ := h
  obtain rfl := beqK_eq h1
  have h3 := decEq_ok hs (decER_iff h2)
  intro x y hx hy
  simp only [Rel] at hx hy
  subst hx hy
  rw [run_equalIn_int w d t k k0 _ _ hu, ← h3]
  congr 1
theorem eqBool_ok (hs : SRel X W0 C E H w) {t d : Nat} (hu : C.P.underlying t = some .bool) {a b : AV} {r : Bool} (h : eqBool C a b = .yes r) : EqOk C E w (d + 1) t a b r := by
  unfold eqBool at h
  simp only [AV.onBool_iff, ne_eq, reduceCtorEq, not_false_eq_true] at h
  obtain ⟨p, rfl, q, rfl, h2⟩ := h
  intro x y hx hy
  simp only [Rel] at hx hy
  subst hx hy
  rw [run_equalIn_bool w d t _ _ hu]
  rw [ife_eq] at h2
  split at h2
  · rename_i hpq
    injection h2 with h2
    rw [beqSB_eq hpq, ← h2]; simp
  · simp only [onSome_iff, ne_eq, reduceCtorEq, not_false_eq_true] at h2
    obtain ⟨p', h3, q', h4, h5⟩ := h2
    injection h5 with h5
    rw [decB_ok hs h3, decB_ok hs h4, ← h5, beqB_dec]
theorem eqStr_ok {t d : Nat} (hu : C.P.underlying t = some .string) {a b : AV} {r : Bool} (h : eqStr a b = .yes r) : EqOk C E w (d + 1) t a b r := by
  unfold eqStr at h
  simp only [AV.onStr_iff, ne_eq, reduceCtorEq, not_false_eq_true] at h
  obtain ⟨l, rfl, l', rfl, h2⟩ := h
  injection h2 with h2
  intro x y hx hy
  simp only [Rel] at hx hy
  obtain ⟨s, rfl, hs⟩ := hx
  obtain ⟨s', rfl, hs'⟩ := hy
  rw [run_equalIn_string w d t _ _ hu, str_eq hs hs', h2]
theorem aliveB_ok (hs : SRel X W0 C E H w) {b r ba en : Nat} (h : aliveB H b = true) (e : E.ρ b = some (r, ba, en)) : ∃ k, H.get b = some k ∧ ∃ D t, w.heap[r]? = some (.cells D t (0, 0)) := by
  unfold aliveB at h
  simp only [onSome_iff, Blk.onCells_iff, ne_eq, reduceCtorEq, not_false_eq_true, Bool.false_eq_true, Bool.true_eq] at h
  obtain ⟨k, h1, t, x, c, rfl, h2⟩ := h
  obtain ⟨r', ba', en', h3, D, h4, _⟩ := hs.read h1
  rw [e] at h3; injection h3 with h3; injection h3 with h3 _; subst h3
  exact ⟨_, h1, D, t, h4⟩
theorem eqPtr_ok (hC : CtxOk C) (hs : SRel X W0 C E H w) {t e d : Nat} (hu : C.P.underlying t = some (.pointer e)) {a b : AV} {r : Bool} (h : eqPtr C H e a b = .yes r) : EqOk C E w (d + 1) t a b r := by
  intro x y hx hy
  unfold eqPtr at h
  rw [AV.onPtr_eq] at h
  split at h
  · rename_i b1 o1
    rw [AV.onPtr_eq] at h
    split at h
    · rename_i b2 o2
      simp only [onSome_iff, ne_eq, reduceCtorEq, not_false_eq_true] at h
      obtain ⟨i, h1, h⟩ := h
      obtain ⟨J, hE⟩ := hC.tinf h1
      rw [ife_eq] at h
      split at h
      · cases h
      · rename_i hsz
        rw [Nat.beq_eq] at hsz
        simp only [Rel] at hx hy
        obtain ⟨r1, ba1, en1, e1, rfl⟩ := hx
        obtain ⟨r2, ba2, en2, e2, rfl⟩ := hy
        have hstep : (Op.equalIn (d + 1) t (.pointer (some ⟨r1, ba1 + o1, none⟩)) (.pointer (some ⟨r2, ba2 + o2, none⟩))).run C.P w = (sameAddr ⟨r1, ba1 + o1, none⟩ ⟨r2, ba2 + o2, none⟩).run C.P w := by
          simp only [Op.equalIn, Sem.run_bind, run_underlying hu, Result.andThen_ok, hE.run_size w]
          rw [if_pos hsz]
        rw [hstep]
        rw [ife_eq] at h
        split at h
        · rename_i hb
          rw [Nat.beq_eq] at hb
          subst hb
          rw [e1] at e2; injection e2 with e2; injection e2 with e2 e3; injection e3 with e3 e4; subst e2 e3 e4
          injection h with h
          rw [← h]
          simp only [sameAddr, beq_self_eq_true, if_true]
          have : ((⟨r1, ba1 + o1, none⟩ : Addr) == ⟨r1, ba1 + o2, none⟩) = Nat.beq o1 o2 := by
            rw [Bool.eq_iff_iff]
            simp [Nat.beq_eq]
          rw [this]; rfl
        · rename_i hb
          rw [Nat.beq_eq] at hb
          rw [ife_eq] at h
          split at h
          · rename_i ha1
            rw [ife_eq] at h
            split at h
            · rename_i ha2
              injection h with h; subst h
              obtain ⟨k1, g1, D1, t1, w1⟩ := aliveB_ok hs ha1 e1
              obtain ⟨k2, g2, D2, t2, w2⟩ := aliveB_ok hs ha2 e2
              have hne := hs.inj b1 b2 k1 k2 _ _ _ _ _ _ g1 g2 e1 e2 hb
              exact run_sameAddr_other w (fun e => hne (by injection e)) w1 w2
            · cases h
          · cases h
    · rw [AV.onNil_iff (by simp)] at h
      obtain ⟨rfl, h⟩ := h
      injection h with h; subst h
      simp only [Rel] at hx hy
      obtain ⟨r1, ba1, en1, e1, rfl⟩ := hx
      subst hy
      simp [Op.equalIn, run_underlying hu]
  · rw [AV.onNil_iff (by simp)] at h
    obtain ⟨rfl, h⟩ := h
    simp only [Rel] at hx
    subst hx
    rw [AV.onNil_eq] at h
    split at h
    · injection h with h; subst h
      simp only [Rel] at hy
      subst hy
      simp [Op.equalIn, run_underlying hu]
    · rw [AV.onPtr_iff (by simp)] at h
      obtain ⟨b2, o2, rfl, h⟩ := h
      injection h with h; subst h
      simp only [Rel] at hy
      obtain ⟨r1, ba1, en1, e1, rfl⟩ := hy
      simp [Op.equalIn, run_underlying hu]
theorem eqIface_ok {t d : Nat} {ms : Array (String × TypeId)} (hu : C.P.underlying t = some (.interface ms)) {a b : AV} {r : Bool} (h : eqIface a b = .yes r) : EqOk C E w (d + 1) t a b r := by
  intro x y hx hy
  unfold eqIface at h
  rw [AV.onNili_eq] at h
  split at h
  · simp only [Rel] at hx
    subst hx
    rw [AV.onNili_eq] at h
    split at h
    · injection h with h; subst h
      simp only [Rel] at hy
      subst hy
      simp [Op.equalIn, run_underlying hu]
    · rw [AV.onIface_iff (by simp)] at h
      obtain ⟨b2, o2, rfl, h⟩ := h
      injection h with h; subst h
      simp only [Rel] at hy
      obtain ⟨x, rfl, _⟩ := hy
      simp [Op.equalIn, run_underlying hu]
  · rw [AV.onIface_iff (by simp)] at h
    obtain ⟨b1, o1, rfl, h⟩ := h
    rw [AV.onNili_iff (by simp)] at h
    obtain ⟨rfl, h⟩ := h
    injection h with h; subst h
    simp only [Rel] at hx hy
    obtain ⟨x, rfl, _⟩ := hx
    subst hy
    simp [Op.equalIn, run_underlying hu]
theorem eqFunc_ok {t d : Nat} {f g : Array TypeId} {q : Bool} (hu : C.P.underlying t = some (.func f g q)) {a b : AV} {r : Bool} (h : eqFunc a b = .yes r) : EqOk C E w (d + 1) t a b r := by
  intro x y hx hy
  unfold eqFunc at h
  rw [AV.onNilf_eq] at h
  split at h
  · simp only [Rel] at hx
    subst hx
    rw [AV.onNilf_eq] at h
    split at h
    · injection h with h; subst h
      simp only [Rel] at hy
      subst hy
      simp [Op.equalIn, run_underlying hu]
    · rw [AV.onFn_iff (by simp)] at h
      obtain ⟨b2, o2, rfl, h⟩ := h
      injection h with h; subst h
      simp only [Rel] at hy
      obtain ⟨x, rfl, _⟩ := hy
      simp [Op.equalIn, run_underlying hu]
  · rw [AV.onFn_iff (by simp)] at h
    obtain ⟨b1, o1, rfl, h⟩ := h
    rw [AV.onNilf_iff (by simp)] at h
    obtain ⟨rfl, h⟩ := h
    injection h with h; subst h
    simp only [Rel] at hx hy
    obtain ⟨x, rfl, _⟩ := hx
    subst hy
    simp [Op.equalIn, run_underlying hu]
theorem eqMap_ok {t d ke ee : Nat} (hu : C.P.underlying t = some (.map ke ee)) {a b : AV} {r : Bool} (h : eqMap a b = .yes r) : EqOk C E w (d + 1) t a b r := by
  intro x y hx hy
  unfold eqMap at h
  rw [AV.onNilm_eq] at h
  split at h
  · simp only [Rel] at hx
    subst hx
    rw [AV.onNilm_eq] at h
    split at h
    · injection h with h; subst h
      simp only [Rel] at hy
      subst hy
      simp [Op.equalIn, run_underlying hu]
    · rw [AV.onMap_iff (by simp)] at h
      obtain ⟨b2, rfl, h⟩ := h
      injection h with h; subst h
      simp only [Rel] at hy
      obtain ⟨_, _, _, _, rfl⟩ := hy
      simp [Op.equalIn, run_underlying hu]
  · rw [AV.onMap_iff (by simp)] at h
    obtain ⟨b1, rfl, h⟩ := h
    rw [AV.onNilm_iff (by simp)] at h
    obtain ⟨rfl, h⟩ := h
    injection h with h; subst h
    simp only [Rel] at hx hy
    obtain ⟨_, _, _, _, rfl⟩ := hx
    subst hy
    simp [Op.equalIn, run_underlying hu]
theorem eqSlice_ok {t d el : Nat} (hu : C.P.underlying t = some (.slice el)) {a b : AV} {r : Bool} (h : eqSlice a b = .yes r) : EqOk C E w (d + 1) t a b r := by
  have hsome : ∀ {a : AV}, (∃ b o n lo ex z, a = .slc b o n lo ex z) ∨ (∃ b o1 o2 z, a = .etl b o1 o2 z) → ∀ x, Rel E a x → ∃ A n c, x = .slice (some A) n c := fun h x hx => by
    rcases h with ⟨b, o, n, lo, ex, z, rfl⟩ | ⟨b, o1, o2, z, rfl⟩
    · simp only [Rel] at hx
      obtain ⟨r, ba, en, c, _, rfl, _⟩ := hx
      exact ⟨_, _, _, rfl⟩
    · simp only [Rel] at hx
      obtain ⟨r, ba, en, o, c, _, rfl, _⟩ := hx
      exact ⟨_, _, _, rfl⟩
  have h1 : ∀ {a b : AV} {r : Bool}, a.onSlc (a.onEtl (R.bad 33) fun _ _ _ _ => b.onNils (R.bad 33) (R.yes false)) (fun _ _ _ _ _ _ => b.onNils (R.bad 33) (R.yes false)) = R.yes r →
      ((∃ b o n lo ex z, a = .slc b o n lo ex z) ∨ (∃ b o1 o2 z, a = .etl b o1 o2 z)) ∧ b = .nils ∧ r = false := fun {a b r} h => by
    rw [AV.onSlc_eq] at h
    split at h
    · rw [AV.onNils_iff (by simp)] at h
      obtain ⟨rfl, h⟩ := h
      injection h with h
      exact ⟨.inl ⟨_, _, _, _, _, _, rfl⟩, rfl, h.symm⟩
    · rw [AV.onEtl_iff (by simp)] at h
      obtain ⟨_, _, _, _, rfl, h⟩ := h
      rw [AV.onNils_iff (by simp)] at h
      obtain ⟨rfl, h⟩ := h
      injection h with h
      exact ⟨.inr ⟨_, _, _, _, rfl⟩, rfl, h.symm⟩
  intro x y hx hy
  unfold eqSlice at h
  rw [AV.onNils_eq] at h
  split at h
  · simp only [Rel] at hx
    subst hx
    rw [AV.onNils_eq] at h
    split at h
    · injection h with h; subst h
      simp only [Rel] at hy
      subst hy
      simp [Op.equalIn, run_underlying hu]
    · rw [AV.onSlc_eq] at h
      have : ∃ A n c, y = .slice (some A) n c := by
        split at h
        · exact hsome (.inl ⟨_, _, _, _, _, _, rfl⟩) _ hy
        · rw [AV.onEtl_iff (by simp)] at h
          obtain ⟨_, _, _, _, rfl, h⟩ := h
          exact hsome (.inr ⟨_, _, _, _, rfl⟩) _ hy
      obtain ⟨A, n, c, rfl⟩ := this
      have hr : r = false := by
        split at h
        · injection h with h; exact h.symm
        · rw [AV.onEtl_iff (by simp)] at h
          obtain ⟨_, _, _, _, _, h⟩ := h
          injection h with h; exact h.symm
      subst hr
      simp [Op.equalIn, run_underlying hu]
  · obtain ⟨h2, rfl, rfl⟩ := h1 h
    obtain ⟨A, n, c, rfl⟩ := hsome h2 _ hx
    simp only [Rel] at hy
    subst hy
    simp [Op.equalIn, run_underlying hu]
theorem eqFds_ok (hC : CtxOk C) {eq : Nat → AV → AV → R} {d : Nat} (ih : ∀ t a b r, eq t a b = .yes r → EqOk C E w d t a b r) {xs ys : List AV} {us vs : Array Value} (hx : RelL E xs us.toList) (hy : RelL E ys vs.toList) :
    ∀ (l : List Field) (r : Bool), eqFds eq C xs ys (fdsOf C.P l) = .yes r → (Op.eqFields d us vs l).run C.P w = .ok r w
  | [], r, h => by
    have h' : R.yes true = .yes r := h
    injection h' with h'; subst h'; rfl
  | f :: l, r, h => by
    have h' : ife (f.name == "_") (eqFds eq C xs ys (fdsOf C.P l)) (partA C f.type xs f.offset (.bad 33) fun x => partA C f.type ys f.offset (.bad 33) fun y => andER (eq f.type x y) (eqFds eq C xs ys (fdsOf C.P l))) = .yes r := h
    rw [ife_eq] at h'
    unfold Op.eqFields
    split at h'
    · rename_i hb
      rw [if_neg (by simpa using hb)]
      exact eqFds_ok hC ih hx hy l r h'
    · rename_i hb
      rw [if_pos (by simpa using hb)]
      obtain ⟨a, h1, h2⟩ := partA_ok (E := E) hC (by simp) h'
      obtain ⟨b, h3, h4⟩ := partA_ok (E := E) hC (by simp) h1
      obtain ⟨u, hu, hur⟩ := h2 us hx
      obtain ⟨q, hq, hqr⟩ := h4 vs hy
      simp only [Sem.run_bind, hu w, hq w, Result.andThen_ok]
      rcases andER_iff h3 with ⟨h5, h6⟩ | ⟨h5, rfl⟩
      · rw [ih _ _ _ _ h5 u q hur hqr]
        simp only [Result.andThen_ok, Bool.not_true, Bool.false_eq_true, if_false]
        exact eqFds_ok hC ih hx hy l r h6
      · rw [ih _ _ _ _ h5 u q hur hqr]
        simp
theorem eqArr_ok (hC : CtxOk C) {eq : Nat → AV → AV → R} {d e n : Nat} (ih : ∀ t a b r, eq t a b = .yes r → EqOk C E w d t a b r) {xs ys : List AV} {us vs : Array Value} (hx : RelL E xs us.toList) (hy : RelL E ys vs.toList) :
    ∀ (k i : Nat) (r : Bool), eqArr eq C xs ys e n k i = .yes r → (Op.eqItems d e n us vs (List.range' i k)).run C.P w = .ok r w
  | 0, i, r, h => by
    have h' : R.yes true = .yes r := h
    injection h' with h'; subst h'; rfl
  | k + 1, i, r, h => by
    have h' : (partA C e xs (i * n) (.bad 33) fun x => partA C e ys (i * n) (.bad 33) fun y => andER (eq e x y) (eqArr eq C xs ys e n k (i + 1))) = .yes r := h
    obtain ⟨a, h1, h2⟩ := partA_ok (E := E) hC (by simp) h'
    obtain ⟨b, h3, h4⟩ := partA_ok (E := E) hC (by simp) h1
    obtain ⟨u, hu, hur⟩ := h2 us hx
    obtain ⟨q, hq, hqr⟩ := h4 vs hy
    rw [List.range'_succ]
    unfold Op.eqItems
    simp only [Sem.run_bind, hu w, hq w, Result.andThen_ok]
    rcases andER_iff h3 with ⟨h5, h6⟩ | ⟨h5, rfl⟩
    · rw [ih _ _ _ _ h5 u q hur hqr]
      simp only [Result.andThen_ok, Bool.not_true, Bool.false_eq_true, if_false]
      exact eqArr_ok hC ih hx hy k (i + 1) r h6
    · rw [ih _ _ _ _ h5 u q hur hqr]
      simp
theorem eqA_ok (hC : CtxOk C) (hs : SRel X W0 C E H w) : ∀ (f d t : Nat) (a b : AV) (r : Bool), f ≤ d → eqA C H f t a b = .yes r → EqOk C E w d t a b r
  | 0, d, t, a, b, r, _, h => absurd h (by show R.bad 33 ≠ _; simp)
  | f + 1, 0, t, a, b, r, hf, h => by omega
  | f + 1, d + 1, t, a, b, r, hf, h => by
    have h' : (onSome (C.tinf t) (.bad 33) fun i => eqD i.d C H (eqA C H f) i a b) = .yes r := h
    rw [onSome_iff (by simp)] at h'
    obtain ⟨i, h1, h2⟩ := h'
    obtain ⟨I, hT⟩ := hC.tinf h1
    have hu := hT.und
    have ih : ∀ t a b r, eqA C H f t a b = .yes r → EqOk C E w d t a b r := fun t a b r h => eqA_ok hC hs f d t a b r (by omega) h
    have hbad : ∀ {n : Nat}, R.bad n = .yes r → False := fun h => by cases h
    cases hd : i.d with
    | bool => rw [hd] at h2 hu; exact eqBool_ok hs hu h2
    | int k => rw [hd] at h2 hu; exact eqInt_ok hs hu h2
    | string => rw [hd] at h2 hu; exact eqStr_ok hu h2
    | pointer e => rw [hd] at h2 hu; exact eqPtr_ok hC hs hu h2
    | slice e => rw [hd] at h2 hu; exact eqSlice_ok hu h2
    | map k e => rw [hd] at h2 hu; exact eqMap_ok hu h2
    | func a b c => rw [hd] at h2 hu; exact eqFunc_ok hu h2
    | interface ms => rw [hd] at h2 hu; exact eqIface_ok hu h2
    | struct fs =>
      rw [hd] at h2 hu
      have h3 : eqStruct C (eqA C H f) i a b = .yes r := h2
      unfold eqStruct at h3
      simp only [AV.onAgg_iff, ne_eq, reduceCtorEq, not_false_eq_true] at h3
      obtain ⟨xs, rfl, ys, rfl, h4⟩ := h3
      rw [ife_eq] at h4
      split at h4
      · cases h4
      · rename_i hst
        intro x y hx hy
        simp only [Rel] at hx hy
        obtain ⟨us, rfl, hx⟩ := hx
        obtain ⟨vs, rfl, hy⟩ := hy
        have hfs : C.P.fieldsOf t = fs := by simp [Program.fieldsOf, hu]
        rw [run_equalIn_struct w d t us vs (by rw [hfs]; exact hu) (by rw [← hT.stood]; simpa using hst), hfs]
        have hfl : i.flds = fdsOf C.P fs.toList := by rw [hT.flds, hd]; rfl
        rw [hfl] at h4
        exact eqFds_ok hC ih hx hy _ r h4
    | array n e =>
      rw [hd] at h2 hu
      have h3 : eqArray C (eqA C H f) n e a b = .yes r := h2
      unfold eqArray at h3
      simp only [AV.onAgg_iff, onSome_iff, ne_eq, reduceCtorEq, not_false_eq_true] at h3
      obtain ⟨xs, rfl, ys, rfl, ei, h4, h5⟩ := h3
      obtain ⟨J, hE⟩ := hC.tinf h4
      intro x y hx hy
      simp only [Rel] at hx hy
      obtain ⟨us, rfl, hx⟩ := hx
      obtain ⟨vs, rfl, hy⟩ := hy
      have hsz : C.P.cellsOf e = ei.size := by
        have h6 := hE.run_size w
        rw [run_sizeOf w hE.info] at h6
        injection h6
      rw [run_equalIn_array w d us vs hu hE.info, hsz, List.range_eq_range']
      exact eqArr_ok hC ih hx hy n 0 r h5
    | _ => rw [hd] at h2; exact (hbad h2).elim
theorem eqA_fsl {f t s : Nat} {b : AV} {r : Bool} (h : eqA C H f t (.fsl s) b = .yes r) : False := by
  cases f with
  | zero => cases h
  | succ f =>
    have h' : (onSome (C.tinf t) (.bad 33) fun i => eqD i.d C H (eqA C H f) i (.fsl s) b) = .yes r := h
    rw [onSome_iff (by simp)] at h'
    obtain ⟨i, _, h2⟩ := h'
    cases hd : i.d <;> (rw [hd] at h2; first | cases h2 | skip)
theorem eqA_fsl' {f t s : Nat} {a : AV} {r : Bool} (h : eqA C H f t a (.fsl s) = .yes r) : False := by
  cases f with
  | zero => cases h
  | succ f =>
    have h' : (onSome (C.tinf t) (.bad 33) fun i => eqD i.d C H (eqA C H f) i a (.fsl s)) = .yes r := h
    rw [onSome_iff (by simp)] at h'
    obtain ⟨i, _, h2⟩ := h'
    cases hd : i.d <;> (rw [hd] at h2; first | (cases h2; done) | (cases a <;> cases h2))
theorem Rel.nilIface {a : AV} (h : Rel E a .nilIface) (hf : ∀ s, a ≠ .fsl s) : a = .nili := by
  cases a <;> simp only [Rel] at h <;> first | rfl | (exact absurd rfl (hf _)) | (cases h; done) | skip
  all_goals first | (obtain ⟨_, h, _⟩ := h; cases h; done) | (obtain ⟨_, _, _, _, h⟩ := h; cases h; done) | (obtain ⟨_, _, _, _, _, h, _⟩ := h; cases h; done) | (obtain ⟨_, _, _, _, _, _, h, _⟩ := h; cases h; done) | (obtain ⟨h, _⟩ := h; cases h)
theorem Rel.aggV {a : AV} {vs : Array Value} (h : Rel E a (.agg vs)) (hf : ∀ s, a ≠ .fsl s) : ∃ cs, a = .agg cs := by
  cases a <;> simp only [Rel] at h <;> first | exact ⟨_, rfl⟩ | (exact absurd rfl (hf _)) | (cases h; done) | skip
  all_goals first | (obtain ⟨_, h, _⟩ := h; cases h; done) | (obtain ⟨_, _, _, _, h⟩ := h; cases h; done) | (obtain ⟨_, _, _, _, _, h, _⟩ := h; cases h; done) | (obtain ⟨_, _, _, _, _, _, h, _⟩ := h; cases h; done) | (obtain ⟨h, _⟩ := h; cases h)
theorem isConstO_ok {x : Operand} (h : isConstO x = true) : (match x with | .const _ => true | _ => false) = true := by
  cases x <;> first | rfl | cases h
/-- The guard, of two that may be equal. -/
def guardM (t : TypeId) (x y : Operand) (u q : Value) : Sem Unit :=
  match u, q with
  | .nilIface, .nilIface => do
    if (x matches .const _) || (y matches .const _) then return
    if ← Op.eqGuardIn Op.maxDepth t u q then unsupported (.noEntry "binop/eql: two nil values of an interface type with methods, neither of them the literal nil")
  | .agg _, .agg _ => do
    if !(← program).eqGuardType (← program).depth t then return
    if ← Op.eqGuardIn Op.maxDepth t u q then unsupported (.noEntry "binop/eql: two nil values of an interface type with methods, in a part of a struct or an array")
  | _, _ => pure ()
theorem eqGuard_of {P : Program} {op : BinOp} {t : TypeId} {x y : Operand} {u q : Value} {w : World} (h : (guardM t x y u q).run P w = .ok () w) : (eqGuard op t x y u q).run P w = .ok () w := by
  cases op <;> first | rfl | exact h
/-- The guard lets the two pass. -/
theorem guard_ok (hC : CtxOk C) {op : BinOp} {t : Nat} {x y : Operand} {a b : AV} {u q : Value} (hu : Rel E a u) (hq : Rel E b q) (h : guardA C t x y a b = true) (ha : ∀ s, a ≠ .fsl s) (hb : ∀ s, b ≠ .fsl s) :
    (eqGuard op t x y u q).run C.P w = .ok () w := by
  refine eqGuard_of ?_
  unfold guardM
  split
  · -- two nils
    obtain rfl := Rel.nilIface hu ha
    obtain rfl := Rel.nilIface hq hb
    have h' : ife (isConstO x) true (isConstO y) = true := h
    rw [ife_eq] at h'
    split at h'
    · rename_i h1
      cases x <;> first | (simp; done) | cases h1
    · cases y <;> first | (simp; done) | cases h'
  · obtain ⟨cs, rfl⟩ := Rel.aggV hu ha
    have h' : (onSome (C.tinf t) false fun i => ife i.guard false true) = true := h
    rw [onSome_iff (by simp)] at h'
    obtain ⟨i, h1, h2⟩ := h'
    obtain ⟨I, hT⟩ := hC.tinf h1
    rw [ife_eq] at h2
    split at h2
    · cases h2
    · rename_i hg
      rw [hT.guard] at hg
      simp [hg]
  · rfl
theorem notER_iff {x : R} {neg : Bool} (h : notER x neg H = .val v H') : ∃ b, x = .yes b ∧ v = .bool (.lit (if neg then !b else b)) ∧ H' = H := by
  cases x with
  | yes b =>
    have h' : R.val (.bool (.lit (ife neg (ife b false true) b))) H = .val v H' := h
    injection h' with h1 h2
    refine ⟨b, rfl, ?_, h2.symm⟩
    rw [← h1]
    cases neg <;> cases b <;> rfl
  | _ => cases h
theorem guard_num {op : BinOp} {t : Nat} {x y : Operand} {u q : Value} (hu : u ≠ .nilIface) (hu' : ∀ vs, u ≠ .agg vs) : (eqGuard op t x y u q).run C.P w = .ok () w := by
  refine eqGuard_of ?_
  unfold guardM
  split
  · exact absurd rfl hu
  · exact absurd rfl (hu' _)
  · rfl
/-- A value that has no arithmetic. -/
structure Plain (u : Value) : Prop where
  int : ∀ k n, u ≠ .int k n
  float : ∀ k n, u ≠ .float k n
  complex : ∀ k n m, u ≠ .complex k n m
  string : ∀ s, u ≠ .string s
theorem Rel.plain {a : AV} {u : Value} (h : Rel E a u) (hf : ∀ s, a ≠ .fsl s) (hi : ∀ k e, a = .int k e → False) (hs : ∀ l, a = .str l → False) : Plain u := by
  have key : (∀ k n, u ≠ .int k n) → (∀ k n, u ≠ .float k n) → (∀ k n m, u ≠ .complex k n m) → (∀ s, u ≠ .string s) → Plain u := fun a b c d => ⟨a, b, c, d⟩
  cases a <;> simp only [Rel] at h <;> first
    | (exact absurd rfl (hf _))
    | (exact (hi _ _ rfl).elim)
    | (exact (hs _ rfl).elim)
    | (subst h; refine key ?_ ?_ ?_ ?_ <;> simp; done)
    | (obtain ⟨_, rfl, _⟩ := h; refine key ?_ ?_ ?_ ?_ <;> simp; done)
    | (obtain ⟨rfl, _⟩ := h; refine key ?_ ?_ ?_ ?_ <;> simp; done)
    | (obtain ⟨_, _, _, _, rfl⟩ := h; refine key ?_ ?_ ?_ ?_ <;> simp; done)
    | (obtain ⟨_, _, _, _, _, rfl, _⟩ := h; refine key ?_ ?_ ?_ ?_ <;> simp; done)
    | (obtain ⟨_, _, _, _, _, _, rfl, _⟩ := h; refine key ?_ ?_ ?_ ?_ <;> simp; done)
theorem binOp_eql {t : TypeId} {u q : Value} (h : Plain u) : binOp .eql t u q = (do pure (.bool (← Op.equal t u q))) := by
  unfold binOp
  split <;> first | rfl | (exact absurd rfl (h.int _ _)) | (exact absurd rfl (h.float _ _)) | (exact absurd rfl (h.complex _ _ _)) | (exact absurd rfl (h.string _)) | skip
  all_goals simp_all
theorem binOp_neq {t : TypeId} {u q : Value} (h : Plain u) : binOp .neq t u q = (do pure (.bool (!(← Op.equal t u q)))) := by
  unfold binOp
  split <;> first | rfl | (exact absurd rfl (h.int _ _)) | (exact absurd rfl (h.float _ _)) | (exact absurd rfl (h.complex _ _ _)) | (exact absurd rfl (h.string _)) | skip
  all_goals simp_all
theorem xBin_ok (hC : CtxOk C) (hs : SRel X W0 C E H w) {op : BinOp} {t : Nat} {x y : Operand} {τ : Tm} {g : Operand → Value} (hx : Opds E τ g [x, y]) (h : xBin op t x y C τ H = .val v H') :
    VOk X W0 C E H w (do eqGuard op t x y (g x) (g y); binOp op t (g x) (g y)) v H' := by
  have via : ∀ {s : Sem Value}, (eqGuard op t x y (g x) (g y)).run C.P w = .ok () w → VOk X W0 C E H w s v H' → s = binOp op t (g x) (g y) → VOk X W0 C E H w (do eqGuard op t x y (g x) (g y); binOp op t (g x) (g y)) v H' := fun {s} h1 h2 e => by
    subst e
    obtain ⟨u, w', E', h3, h4⟩ := h2
    exact ⟨u, w', E', by simp [h1, h3], h4⟩
  unfold xBin at h
  simp only [onSome_iff, ne_eq, reduceCtorEq, not_false_eq_true] at h
  obtain ⟨a, h1, b, h2, h⟩ := h
  have ha := hx x (by simp) _ h1
  have hb := hx y (by simp) _ h2
  rw [AV.onInt_eq] at h
  split at h
  · rw [AV.onInt_iff (by simp)] at h
    obtain ⟨k', e', rfl, h⟩ := h
    rw [ife_iff (by simp)] at h
    obtain ⟨h3, h4⟩ := h
    simp only [Rel] at ha hb
    refine via (guard_num (by rw [ha]; simp) (by rw [ha]; simp)) ?_ rfl
    rw [ha, hb]
    refine intBin_ok hs ?_ h4
    rw [ife_eq] at h3
    split at h3
    · rename_i h5; exact .inl h5
    · exact .inr (beqK_eq h3)
  · rw [AV.onStr_eq] at h
    split at h
    · rw [AV.onStr_iff (by simp)] at h
      obtain ⟨l', rfl, h⟩ := h
      simp only [Rel] at ha hb
      obtain ⟨s, es, hl⟩ := ha
      obtain ⟨s', es', hl'⟩ := hb
      refine via (guard_num (by rw [es]; simp) (by rw [es]; simp)) ?_ rfl
      rw [es, es']
      exact strBin_ok hs hl hl' h
    · rename_i hni _ hns
      have key : ∀ neg, eqX C H neg t x y a b = .val v H' → ∃ r, (Op.equal t (g x) (g y)).run C.P w = .ok r w ∧ v = .bool (.lit (if neg then !r else r)) ∧ H' = H ∧ (eqGuard op t x y (g x) (g y)).run C.P w = .ok () w ∧ Plain (g x) := fun neg h => by
        unfold eqX at h
        rw [ife_iff (by simp)] at h
        obtain ⟨h3, h4⟩ := h
        obtain ⟨r, h5, h6, h7⟩ := notER_iff h4
        have hf : ∀ s, a ≠ .fsl s := fun s e => by subst e; exact eqA_fsl h5
        exact ⟨r, eqA_ok hC hs 40 10000 t a b r (by omega) h5 _ _ ha hb, h6, h7, guard_ok hC ha hb h3 hf (fun s e => by subst e; exact eqA_fsl' h5), ha.plain hf hni hns⟩
      cases op with
      | eql =>
        obtain ⟨r, h3, rfl, rfl, h4, h5⟩ := key false h
        refine via h4 (VOk.same (u := .bool r) hs ?_ (by simp [Rel, SB.den])) rfl
        rw [binOp_eql h5]
        simp [h3]
      | neq =>
        obtain ⟨r, h3, rfl, rfl, h4, h5⟩ := key true h
        refine via h4 (VOk.same (u := .bool (!r)) hs ?_ (by simp [Rel, SB.den])) rfl
        rw [binOp_neq h5]
        simp [h3]
      | _ => cases h
end
end Go.Proofs.YtjebljnifeoiaaaGreat.Vm
