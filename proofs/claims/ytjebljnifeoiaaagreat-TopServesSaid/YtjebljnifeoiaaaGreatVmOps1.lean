/- The machine's operations are the model's: the tables; numbers; what is known. No condition but those each theorem names. -/
import Derived.Test.YtjebljnifeoiaaaGreatVmRel
namespace Go.Proofs.YtjebljnifeoiaaaGreat.Vm
open Go
set_option linter.unusedVariables false
set_option linter.unusedSimpArgs false

structure CtxOk (C : Ctx) : Prop where
  ty : ∀ t o, C.ty.get t = some o → o = mkTI C.P t
  fn : ∀ f o, C.fn.get f = some o → o = C.P.funcs[f]?
theorem CtxOk.mk' (P : Program) (know : List (Atom × Bool)) (fk : List (List (Option IntKind))) (facts : List Fact) (silent : List Nat) : CtxOk (Ctx.mk' P know fk facts silent) :=
  ⟨fun t o h => Tr.tab_get (mkTI P) 12 _ t o h, fun f o h => Tr.tab_get (fun f => P.funcs[f]?) 12 _ f o h⟩
/-- What the tables tell of a type. -/
structure TOk (P : Program) (t : Nat) (i : TInf) (I : TypeInfo) : Prop where
  info : P.info? t = some I
  und : P.underlying t = some i.d
  size : i.size = I.size
  bytes : i.bytes = I.bytes
  zero : i.zero = zeroCellsOf I.zero
  agg : i.agg = isAggD i.d
  flds : i.flds = fdsD P i.d
  stood : i.stood = P.stoodInHeld t
  guard : i.guard = P.eqGuardType P.depth t
  plc : i.plc = plcD P i.d
  zv : i.zv = I.zero.bind ofValue
theorem CtxOk.tinf {C : Ctx} (hC : CtxOk C) {t : Nat} {i : TInf} (h : C.tinf t = some i) : ∃ I, TOk C.P t i I := by
  unfold Ctx.tinf at h
  rw [onSome_iff (by simp)] at h
  obtain ⟨o, h1, h2⟩ := h
  subst h2
  have h3 := hC.ty t _ h1
  unfold mkTI at h3
  have h4 := h3.symm
  rw [onSome_iff (by simp)] at h4
  obtain ⟨I, h5, h6⟩ := h4
  rw [onSome_iff (by simp)] at h6
  obtain ⟨d, h7, h8⟩ := h6
  injection h8 with h8
  subst h8
  exact ⟨I, h5, h7, rfl, rfl, rfl, rfl, rfl, rfl, rfl, rfl, rfl⟩
theorem TOk.run_info {P : Program} {t : Nat} {i : TInf} {I : TypeInfo} (h : TOk P t i I) (w : World) : (typeInfo t).run P w = .ok I w := by simp [typeInfo, program, Sem.run, h.info]
theorem TOk.run_und {P : Program} {t : Nat} {i : TInf} {I : TypeInfo} (h : TOk P t i I) (w : World) : (underlying t).run P w = .ok i.d w := run_underlying h.und w
theorem TOk.run_size {P : Program} {t : Nat} {i : TInf} {I : TypeInfo} (h : TOk P t i I) (w : World) : (sizeOf t).run P w = .ok i.size w := by simp [sizeOf, h.run_info w, h.size]
theorem TOk.run_agg {P : Program} {t : Nat} {i : TInf} {I : TypeInfo} (h : TOk P t i I) (w : World) : (isAgg t).run P w = .ok i.agg w := by
  unfold isAgg
  simp only [Sem.run_bind, h.run_und w, Result.andThen_ok]
  rw [h.agg]
  cases i.d <;> rfl
theorem ofCell_rel {E : Env} {v : Value} {a : AV} (h : ofCell v = some a) : Rel E a v ∧ oneCell a = true := by
  unfold ofCell at h
  split at h <;> first | (injection h with h; subst h; exact ⟨by simp [Rel, SI.den, SB.den], by simp [oneCell, AV.onAgg_eq, AV.onTup_eq]⟩) | cases h
theorem ofCells_rel {E : Env} : ∀ {l : List Value} {m : List AV}, ofCells l = some m → RelL E m l ∧ allOne m = true
  | [], m, h => by
    have h' : some [] = some m := h
    injection h' with h'; subst h'; exact ⟨RelL.nil, rfl⟩
  | v :: l, m, h => by
    have h' : (onSome (ofCell v) none fun a => onSome (ofCells l) none fun m => some (a :: m)) = some m := h
    rw [onSome_iff (by simp)] at h'
    obtain ⟨a, h1, h2⟩ := h'
    rw [onSome_iff (by simp)] at h2
    obtain ⟨m', h3, h4⟩ := h2
    injection h4 with h4; subst h4
    obtain ⟨h5, h6⟩ := ofCell_rel (E := E) h1
    obtain ⟨h7, h8⟩ := ofCells_rel (E := E) h3
    refine ⟨RelL.cons h5 h7, ?_⟩
    show ife (oneCell a) (allOne m') false = true
    rw [h6, h8]; rfl
theorem ofValue_rel {E : Env} {v : Value} {a : AV} (h : ofValue v = some a) : Rel E a v := by
  unfold ofValue at h
  split at h
  · rename_i cs
    cases hc : ofCells cs.toList with
    | none => rw [hc] at h; cases h
    | some m => rw [hc] at h; injection h with h; subst h; simp only [Rel]; exact ⟨cs, rfl, (ofCells_rel hc).1⟩
  · rename_i cs
    cases hc : ofCells cs.toList with
    | none => rw [hc] at h; cases h
    | some m => rw [hc] at h; injection h with h; subst h; simp only [Rel]; exact ⟨cs, rfl, (ofCells_rel hc).1⟩
  · rename_i f first cap
    split at h
    · rename_i hc
      injection h with h; subst h
      simp at hc
      obtain ⟨rfl, rfl⟩ := hc
      simp only [Rel]
      exact ⟨#[], rfl, RelL.nil⟩
    · cases h
  · exact (ofCell_rel h).1
/-- The operands that a step looks at are as the slots tell. -/
def Opds (E : Env) (τ : Tm) (g : Operand → Value) (l : List Operand) : Prop := ∀ x, x ∈ l → ∀ v, ev x τ = some v → Rel E v (g x)
/-- What the model does with a value, and what the machine says of it. -/
def VOk (X : Nat → Prop) (W0 : World) (C : Ctx) (E : Env) (H : Heap) (w : World) (s : Sem Value) (v : AV) (H' : Heap) : Prop :=
  ∃ u w' E', s.run C.P w = .ok u w' ∧ Grew E E' H.next H'.next ∧ Rel E' v u ∧ SRel X W0 C E' H' w' ∧ H'.ro = H.ro ∧ H'.lim = H.lim ∧ H.next ≤ H'.next
def Next.out : Next → Option Value
  | .value v => some v
  | .skip => some undef
  | _ => none
def XOk (X : Nat → Prop) (W0 : World) (C : Ctx) (E : Env) (H : Heap) (w : World) (s : Sem Next) (v : AV) (H' : Heap) : Prop :=
  ∃ nx u w' E', s.run C.P w = .ok nx w' ∧ Next.out nx = some u ∧ Grew E E' H.next H'.next ∧ Rel E' v u ∧ SRel X W0 C E' H' w' ∧ H'.ro = H.ro ∧ H'.lim = H.lim ∧ H.next ≤ H'.next
section
variable {X : Nat → Prop} {W0 : World} {C : Ctx} {E : Env} {H H' : Heap} {w : World} {v : AV}
theorem VOk.step {s : Sem Value} (h : VOk X W0 C E H w s v H') : XOk X W0 C E H w (do pure (.value (← s))) v H' := by
  obtain ⟨u, w', E', h1, h2⟩ := h
  exact ⟨.value u, u, w', E', by simp [h1], rfl, h2⟩
theorem VOk.same {s : Sem Value} {u : Value} (hs : SRel X W0 C E H w) (h : s.run C.P w = .ok u w) (r : Rel E v u) : VOk X W0 C E H w s v H :=
  ⟨u, w, E, h, Grew.refl _ _ _, r, hs, rfl, rfl, Nat.le_refl _⟩
theorem undef_rel : Rel E .undef undef := by unfold AV.undef undef; simp only [Rel]; exact ⟨#[], rfl, RelL.nil⟩
theorem boolRel {a b : Bool} (h : a = b) : Rel E (.bool (.lit a)) (.bool b) := by subst h; simp [Rel, SB.den]

/-! ### What is known -/
theorem beqK_eq {a b : IntKind} (h : beqK a b = true) : a = b := by cases a <;> cases b <;> first | rfl | (simp [beqK, kno] at h)
theorem beqB_eq {a b : Bool} (h : beqB a b = true) : a = b := by cases a <;> cases b <;> first | rfl | (simp [beqB] at h)
theorem beqB_dec (a b : Bool) : beqB a b = (a == b) := by cases a <;> cases b <;> rfl
theorem beqIOp_eq {a b : IOp} (h : beqIOp a b = true) : a = b := by cases a <;> cases b <;> first | rfl | (simp [beqIOp] at h)
theorem beqSI_eq : ∀ {a b : SI}, beqSI a b = true → a = b
  | .lit a, .lit b, h => by simp [beqSI, ieq_eq] at h; subst h; rfl
  | .var i, .var j, h => by simp [beqSI, Nat.beq_eq] at h; subst h; rfl
  | .app f k a b, .app f' k' a' b', h => by
    simp only [beqSI, Bool.and_eq_true] at h
    obtain ⟨h1, h2, h3, h4⟩ := h
    rw [beqIOp_eq h1, beqK_eq h2, beqSI_eq h3, beqSI_eq h4]
  | .elem s i j, .elem s' i' j', h => by
    simp only [beqSI, Bool.and_eq_true, Nat.beq_eq] at h
    obtain ⟨h1, h2, h3⟩ := h
    rw [h1, beqSI_eq h2, h3]
  | .len s, .len s', h => by simp [beqSI, Nat.beq_eq] at h; subst h; rfl
  | .lit _, .var _, h => by simp [beqSI] at h
  | .lit _, .app .., h => by simp [beqSI] at h
  | .lit _, .elem .., h => by simp [beqSI] at h
  | .lit _, .len _, h => by simp [beqSI] at h
  | .var _, .lit _, h => by simp [beqSI] at h
  | .var _, .app .., h => by simp [beqSI] at h
  | .var _, .elem .., h => by simp [beqSI] at h
  | .var _, .len _, h => by simp [beqSI] at h
  | .app .., .lit _, h => by simp [beqSI] at h
  | .app .., .var _, h => by simp [beqSI] at h
  | .app .., .elem .., h => by simp [beqSI] at h
  | .app .., .len _, h => by simp [beqSI] at h
  | .elem .., .lit _, h => by simp [beqSI] at h
  | .elem .., .var _, h => by simp [beqSI] at h
  | .elem .., .app .., h => by simp [beqSI] at h
  | .elem .., .len _, h => by simp [beqSI] at h
  | .len _, .lit _, h => by simp [beqSI] at h
  | .len _, .var _, h => by simp [beqSI] at h
  | .len _, .app .., h => by simp [beqSI] at h
  | .len _, .elem .., h => by simp [beqSI] at h
theorem beqSB_eq {a b : SB} (h : beqSB a b = true) : a = b := by
  cases a <;> cases b <;> simp only [beqSB, Bool.and_eq_true, Nat.beq_eq, Bool.false_eq_true] at h
  · rw [beqB_eq h]
  · rw [h]
  · obtain ⟨h1, h2, h3⟩ := h; rw [h1, beqSI_eq h2, h3]
theorem beqAtom_eq {a b : Atom} (h : beqAtom a b = true) : a = b := by
  cases a <;> cases b <;> simp only [beqAtom, Bool.and_eq_true, Bool.false_eq_true] at h
  · rw [beqSI_eq h.1, beqSI_eq h.2]
  · rw [beqSI_eq h.1, beqSI_eq h.2]
  · rw [beqSB_eq h]
theorem known_ok {a : Atom} {r : Bool} : ∀ {l : List (Atom × Bool)}, known a l = some r → (∀ p ∈ l, p.1.den E = p.2) → a.den E = r
  | [], h, _ => by simp [known] at h
  | (b, q) :: l, h, k => by
    have h' : ife (beqAtom a b) (some q) (known a l) = some r := h
    rw [ife_eq] at h'
    split at h'
    · rename_i hb
      injection h' with h'; subst h'
      rw [beqAtom_eq hb]; exact k (b, q) (by simp)
    · exact known_ok h' (fun p hp => k p (by simp [hp]))
theorem decLt_ok (hs : SRel X W0 C E H w) {a b : SI} {r : Bool} (h : decLt C a b = some r) : decide (a.den E < b.den E) = r := by
  unfold decLt at h
  have hk : known (.lt a b) C.know = some r → decide (a.den E < b.den E) = r := fun h => known_ok h hs.know
  cases a <;> cases b <;> simp only [SI.onLit_eq] at h <;> first | exact hk h | (injection h with h; rw [← h, ilt_eq]; rfl)
theorem decEq_ok (hs : SRel X W0 C E H w) {a b : SI} {r : Bool} (h : decEq C a b = some r) : decide (a.den E = b.den E) = r := by
  unfold decEq at h
  have hk : known (.eq a b) C.know = some r → decide (a.den E = b.den E) = r := fun h => known_ok h hs.know
  have hq : ife (beqSI a b) (some true) (known (.eq a b) C.know) = some r → decide (a.den E = b.den E) = r := fun h => by
    rw [ife_eq] at h
    split at h
    · rename_i hb
      injection h with h; rw [← h, beqSI_eq hb]; simp
    · exact hk h
  cases a <;> cases b <;> simp only [SI.onLit_eq] at h <;> first | exact hk h | exact hq h | (injection h with h; rw [← h, ieq_eq]; rfl)
theorem decB_ok (hs : SRel X W0 C E H w) {b : SB} {r : Bool} (h : decB C b = some r) : b.den E = r := by
  unfold decB at h
  have hk : known (.bool b) C.know = some r → b.den E = r := fun h => known_ok (a := .bool b) h hs.know
  cases b <;> simp only [SB.onLit_eq] at h <;> first | exact hk h | (injection h with h)
theorem SI.bin_ok {f : IOp} {k : IntKind} {a b : SI} {κ : SI → R} {r : R} (h : SI.bin f k a b κ = r) : ∃ e : SI, (∀ E, e.den E = f.den k (a.den E) (b.den E)) ∧ κ e = r := by
  unfold SI.bin at h
  have key : ∀ x y, κ (.lit (f.fast k x y)) = r → ∃ e : SI, (∀ E, e.den E = f.den k ((SI.lit x).den E) ((SI.lit y).den E)) ∧ κ e = r := fun x y h => ⟨.lit (f.fast k x y), fun E => IOp.fast_eq f k x y, h⟩
  cases a <;> cases b <;> simp only [SI.onLit_eq, forceI_eq] at h <;> first | exact ⟨_, fun E => rfl, h⟩ | exact key _ _ h

/-! ### Moves, picks -/
theorem xMove_ok (hs : SRel X W0 C E H w) {x : Operand} {τ : Tm} {g : Operand → Value} (hx : Opds E τ g [x]) (h : xMove x C τ H = .val v H') : XOk X W0 C E H w (pure (.value (g x))) v H' := by
  unfold xMove at h
  simp only [onSome_iff, ne_eq, reduceCtorEq, not_false_eq_true, R.val.injEq] at h
  obtain ⟨a, h1, rfl, rfl⟩ := h
  exact ⟨_, _, w, E, rfl, rfl, Grew.refl _ _ _, hx x (by simp) a h1, hs, rfl, rfl, Nat.le_refl _⟩
theorem xPick_ok (hs : SRel X W0 C E H w) {c a b : Operand} {τ : Tm} {g : Operand → Value} (hx : Opds E τ g [c, a, b]) (h : xPick c a b C τ H = .val v H') :
    XOk X W0 C E H w (do pure (.value (if ← asBool (g c) then g a else g b))) v H' := by
  unfold xPick at h
  simp only [onSome_iff, AV.onBool_iff, ne_eq, reduceCtorEq, not_false_eq_true] at h
  obtain ⟨cv, h1, s, rfl, q, h2, h3⟩ := h
  have hc := hx c (by simp) _ h1
  simp only [Rel] at hc
  have hq := decB_ok hs h2
  rw [ife_eq] at h3
  split at h3
  · rename_i hqt
    rw [onSome_iff (by simp)] at h3
    obtain ⟨u, h4, h5⟩ := h3
    injection h5 with h5 h6; subst h5 h6
    refine ⟨.value (g a), _, w, E, ?_, rfl, Grew.refl _ _ _, hx a (by simp) _ h4, hs, rfl, rfl, Nat.le_refl _⟩
    simp [hc, asBool, hq, hqt]
  · rename_i hqt
    rw [onSome_iff (by simp)] at h3
    obtain ⟨u, h4, h5⟩ := h3
    injection h5 with h5 h6; subst h5 h6
    refine ⟨.value (g b), _, w, E, ?_, rfl, Grew.refl _ _ _, hx b (by simp) _ h4, hs, rfl, rfl, Nat.le_refl _⟩
    simp [hc, asBool, hq, hqt]
end
end Go.Proofs.YtjebljnifeoiaaaGreat.Vm
