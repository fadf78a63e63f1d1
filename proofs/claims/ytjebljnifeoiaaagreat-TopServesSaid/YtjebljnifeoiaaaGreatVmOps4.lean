/- The machine's operations are the model's: places, parts, numbers. No condition but those each theorem names. -/
import Derived.Test.YtjebljnifeoiaaaGreatVmOps3
namespace Go.Proofs.YtjebljnifeoiaaaGreat.Vm
open Go
set_option linter.unusedVariables false
set_option linter.unusedSimpArgs false
section
variable {X : Nat → Prop} {W0 : World} {C : Ctx} {E : Env} {H H' : Heap} {w : World} {v : AV}
theorem onNat_iff {β : Type} {e : SI} {no : β} {κ : Nat → β} {r : β} (h : no ≠ r) : onNat e no κ = r ↔ ∃ n : Nat, e = .lit (.ofNat n) ∧ κ n = r := by
  unfold onNat
  cases e with
  | lit n =>
    simp only [SI.onLit_eq]
    cases n with
    | ofNat n => exact ⟨fun e => ⟨n, rfl, e⟩, fun ⟨m, e0, e⟩ => by cases e0; exact e⟩
    | negSucc n => exact ⟨fun e => absurd e h, fun ⟨m, e0, e⟩ => by cases e0⟩
  | _ => simp only [SI.onLit_eq]; exact ⟨fun e => absurd e h, fun ⟨m, e0, e⟩ => by cases e0⟩
theorem zv_ok {P : Program} {t : Nat} {i : TInf} {I : TypeInfo} (hT : TOk P t i I) {z : AV} (h : i.zv = some z) : ∃ u, (∀ w, (zeroValue t).run P w = .ok u w) ∧ Rel E z u := by
  rw [hT.zv] at h
  cases hz : I.zero with
  | none => rw [hz] at h; cases h
  | some u => rw [hz] at h; exact ⟨u, fun w => by simp [zeroValue, hT.run_info w, hz], ofValue_rel h⟩
theorem fdsOf_nth {P : Program} : ∀ {l : List Field} {k : Nat} {fd : Fd}, (fdsOf P l)[k]? = some fd → ∃ f, l[k]? = some f ∧ fd = ⟨f.offset, f.type, ((P.info? f.type).map (·.size)).getD 0, f.name == "_"⟩
  | [], k, fd, h => by simp [fdsOf] at h
  | f :: l, 0, fd, h => by simp [fdsOf] at h; exact ⟨f, rfl, h.symm⟩
  | f :: l, k + 1, fd, h => by simp [fdsOf] at h; simpa using fdsOf_nth h
theorem fd_ok {P : Program} {t : Nat} {i : TInf} {I : TypeInfo} (hT : TOk P t i I) {k : Nat} {fd : Fd} (h : nth i.flds k = some fd) :
    ∃ fs f, i.d = .struct fs ∧ fs[k]? = some f ∧ fd.off = f.offset ∧ fd.ty = f.type ∧ fd.size = ((P.info? f.type).map (·.size)).getD 0 ∧ fd.blank = (f.name == "_") := by
  rw [nth_eq, hT.flds] at h
  cases hd : i.d <;> rw [hd] at h <;> simp only [fdsD] at h <;> first | (simp at h; done) | skip
  rename_i fs
  obtain ⟨f, h1, h2⟩ := fdsOf_nth h
  subst h2
  exact ⟨fs, f, rfl, by simpa using h1, rfl, rfl, rfl, rfl⟩
theorem partA_ok (hC : CtxOk C) {t : Nat} {cs : List AV} {off : Nat} {no : R} {κ : AV → R} {r : R} (hn : no ≠ r) (h : partA C t cs off no κ = r) :
    ∃ a, κ a = r ∧ ∀ vs : Array Value, RelL E cs vs.toList → ∃ u, (∀ w, (part t vs off).run C.P w = .ok u w) ∧ Rel E a u := by
  unfold partA at h
  rw [onSome_iff hn] at h
  obtain ⟨i, h1, h2⟩ := h
  obtain ⟨I, hT⟩ := hC.tinf h1
  rw [ife_eq] at h2
  split at h2
  · rename_i ha
    rw [takeK_iff hn, dropA_eq] at h2
    obtain ⟨h3, h4⟩ := h2
    refine ⟨_, h4, fun vs hv => ⟨.agg (vs.extract off (off + i.size)), fun w => ?_, ?_⟩⟩
    · have := hT.run_agg w
      rw [ha] at this
      simp [part, this, hT.run_size w]
    · simp only [Rel]
      refine ⟨_, rfl, ?_⟩
      rw [Array.toList_extract, List.extract_eq_take_drop]
      simpa using (hv.drop off).take i.size
  · rename_i ha
    rw [onSome_iff hn] at h2
    obtain ⟨a, h3, h4⟩ := h2
    rw [nthA_eq] at h3
    refine ⟨a, h4, fun vs hv => ?_⟩
    obtain ⟨u, h5, h6⟩ := hv.get _ _ h3
    refine ⟨u, fun w => ?_, h6⟩
    have := hT.run_agg w
    rw [show i.agg = false by simpa using ha] at this
    have h5' : vs[off]? = some u := by simpa using h5
    simp [part, this, h5']
theorem xNil_ok (hs : SRel X W0 C E H w) {x : Operand} {τ : Tm} {g : Operand → Value} (hx : Opds E τ g [x]) (h : xNil x C τ H = .val v H') :
    H' = H ∧ Rel E v (g x) ∧ ((∃ a, g x = .pointer (some a)) ∨ (∃ f vs, g x = .func (.func f) #[] vs) ∨ ∃ t u, g x = .iface t u) := by
  unfold xNil at h
  rw [onSome_iff (by simp)] at h
  obtain ⟨a, h1, h2⟩ := h
  have ha := hx x (by simp) a h1
  cases a <;> simp only [AV.onPtr_eq, AV.onFn_eq, AV.onIface_eq, AV.onFpt_eq] at h2 <;> first | cases h2; done | skip
  all_goals
    injection h2 with h2 h3; subst h2 h3
    refine ⟨rfl, ha, ?_⟩
    simp only [Rel] at ha
  · obtain ⟨_, _, _, _, e⟩ := ha; exact .inl ⟨_, e⟩
  · obtain ⟨_, e, _⟩ := ha; exact .inr (.inl ⟨_, _, e⟩)
  · obtain ⟨_, e, _⟩ := ha; exact .inr (.inr ⟨_, _, e⟩)
  · obtain ⟨e, _⟩ := ha; exact .inl ⟨_, e⟩
theorem xField_ok (hC : CtxOk C) (hs : SRel X W0 C E H w) {t : Nat} {x : Operand} {f : Nat} {τ : Tm} {g : Operand → Value} (hx : Opds E τ g [x]) (h : xField t x f C τ H = .val v H') : VOk X W0 C E H w (Instr.field t (g x) f) v H' := by
  unfold xField at h
  simp only [onSome_iff, AV.onAgg_iff, TypeDesc.onStruct_iff, ne_eq, reduceCtorEq, not_false_eq_true] at h
  obtain ⟨a, h1, cs, rfl, i, h2, fs, hd, fd, h3, h4⟩ := h
  obtain ⟨I, hT⟩ := hC.tinf h2
  obtain ⟨b, h5, h6⟩ := partA_ok (E := E) hC (by simp) h4
  injection h5 with h5 h7; subst h5 h7
  have ha := hx x (by simp) _ h1
  simp only [Rel] at ha
  obtain ⟨vs, e, hv⟩ := ha
  obtain ⟨u, h8, h9⟩ := h6 vs hv
  obtain ⟨fs', f', hd', hf, ho, hty, _, _⟩ := fd_ok hT h3
  refine VOk.same hs ?_ h9
  rw [ho, hty] at h8
  rw [e]
  simp [Instr.field, hT.run_und w, hd', hf, asAgg, h8 w]
theorem add_none (b o j : Nat) : (⟨b, o, none⟩ : Addr).add j = ⟨b, o + j, none⟩ := Addr.add_mid b o j
theorem xFieldAddr_ok (hC : CtxOk C) (hs : SRel X W0 C E H w) {t : Nat} {x : Operand} {f : Nat} {τ : Tm} {g : Operand → Value} (hx : Opds E τ g [x]) (h : xFieldAddr t x f C τ H = .val v H') : VOk X W0 C E H w (Instr.fieldAt t (g x) f) v H' := by
  unfold xFieldAddr at h
  simp only [onSome_iff, ne_eq, reduceCtorEq, not_false_eq_true, forceN_eq] at h
  obtain ⟨a, h1, i, h2, fd, h3, h4⟩ := h
  obtain ⟨I, hT⟩ := hC.tinf h2
  obtain ⟨fs, f', hd, hf, ho, hty, hsz, _⟩ := fd_ok hT h3
  rw [ife_no (by simp)] at h4
  obtain ⟨h5, h6⟩ := h4
  have h5' : fd.size ≠ 0 := beq_false_iff.1 h5
  have ha := hx x (by simp) a h1
  have hrun : ∀ b o, g x = .pointer (some ⟨b, o, none⟩) → (Instr.fieldAt t (g x) f).run C.P w = .ok (.pointer (some ⟨b, o + fd.off, none⟩)) w := fun b o e => by
    cases hi : C.P.info? f'.type with
    | none => rw [hi] at hsz; simp at hsz; omega
    | some J =>
      rw [hi] at hsz
      have hJ : J.size ≠ 0 := by simp at hsz; omega
      rw [e, ho, ← add_none]
      simp [Instr.fieldAt, hT.run_und w, hd, hf, Instr.sureAddr, fieldPlace, sizeOf, typeInfo, hi, hJ]
  rw [AV.onPtr_eq] at h6
  split at h6
  · injection h6 with h6 h7; subst h6 h7
    simp only [Rel] at ha
    obtain ⟨r, ba, en, h7, e⟩ := ha
    exact VOk.same hs (hrun _ _ e) (by simp only [Rel]; exact ⟨r, ba, en, h7, by rw [Nat.add_assoc]; rfl⟩)
  · rw [AV.onFpt_iff (by simp)] at h6
    obtain ⟨s, q, j, rfl, h6⟩ := h6
    injection h6 with h6 h7; subst h6 h7
    simp only [Rel] at ha
    exact VOk.same hs (hrun _ _ ha.1) (by simp only [Rel]; exact ⟨by rw [Nat.add_assoc]; rfl, ha.2⟩)
theorem xExtract_ok (hs : SRel X W0 C E H w) {x : Operand} {i : Nat} {τ : Tm} {g : Operand → Value} (hx : Opds E τ g [x]) (h : xExtract x i C τ H = .val v H') : VOk X W0 C E H w (Instr.extract (g x) i) v H' := by
  unfold xExtract at h
  simp only [onSome_iff, AV.onTup_iff, ne_eq, reduceCtorEq, not_false_eq_true, nthA_eq] at h
  obtain ⟨a, h1, vs, rfl, b, h2, h3⟩ := h
  injection h3 with h3 h4; subst h3 h4
  have ha := hx x (by simp) _ h1
  simp only [Rel] at ha
  obtain ⟨us, e, hv⟩ := ha
  obtain ⟨u, h5, h6⟩ := hv.get _ _ h2
  have h5' : us[i]? = some u := by simpa using h5
  exact VOk.same hs (by rw [e]; simp [Instr.extract, h5']) h6
theorem xMakeIface_ok (hC : CtxOk C) (hs : SRel X W0 C E H w) {t : Nat} {x : Operand} {τ : Tm} {g : Operand → Value} (hx : Opds E τ g [x]) (h : xMakeIface t x C τ H = .val v H') : VOk X W0 C E H w (Instr.makeInterface t (g x)) v H' := by
  unfold xMakeIface at h
  simp only [onSome_iff, ne_eq, reduceCtorEq, not_false_eq_true] at h
  obtain ⟨a, h1, i, h2, h3⟩ := h
  obtain ⟨I, hT⟩ := hC.tinf h2
  rw [ife_no (by simp)] at h3
  obtain ⟨h4, h5⟩ := h3
  injection h5 with h5 h6; subst h5 h6
  refine VOk.same (u := .iface t (g x)) hs ?_ (by simp only [Rel]; exact ⟨_, rfl, hx x (by simp) a h1⟩)
  unfold Instr.makeInterface
  simp only [Sem.run_bind, hT.run_und w, Result.andThen_ok]
  cases hd : i.d <;> rw [hd] at h4 <;> first | rfl | (simp [isIface] at h4)
theorem xAssert_ok (hC : CtxOk C) (hs : SRel X W0 C E H w) {t u : Nat} {ok : Bool} {x : Operand} {τ : Tm} {g : Operand → Value} (hx : Opds E τ g [x]) (h : xAssert x t u ok C τ H = .val v H') : VOk X W0 C E H w (Instr.typeAssert (g x) t u ok) v H' := by
  unfold xAssert at h
  simp only [onSome_iff, ne_eq, reduceCtorEq, not_false_eq_true] at h
  obtain ⟨a, h1, i, h2, h3⟩ := h
  obtain ⟨I, hT⟩ := hC.tinf h2
  rw [ife_no (by simp)] at h3
  obtain ⟨h4, h5⟩ := h3
  have ha := hx x (by simp) a h1
  have hno : notIt ok i H = .val v H' → ok = true ∧ H' = H ∧ ∃ z u', v = .tup [z, .bool (.lit false)] ∧ (∀ w, (zeroValue u).run C.P w = .ok u' w) ∧ Rel E z u' := fun k => by
    unfold notIt at k
    simp only [ife_iff, onSome_iff, ne_eq, reduceCtorEq, not_false_eq_true] at k
    obtain ⟨k1, z, k2, k3⟩ := k
    injection k3 with k3 k4; subst k3 k4
    obtain ⟨u', k5, k6⟩ := zv_ok (E := E) hT k2
    exact ⟨k1, rfl, z, u', rfl, k5, k6⟩
  have hund := hT.run_und w
  have hface : ∀ ms, i.d ≠ .interface ms := fun ms e => by rw [e] at h4; simp [isIface] at h4
  rw [AV.onIface_eq] at h5
  split at h5
  · rename_i t' b
    simp only [Rel] at ha
    obtain ⟨y, e, hb⟩ := ha
    rw [ife_eq] at h5
    split at h5
    · rename_i ht
      have ht' : t' = u := by simpa [Nat.beq_eq] using ht
      injection h5 with h5 h6; subst h5 h6
      refine VOk.same (u := if ok then .tuple #[y, .bool true] else y) hs ?_ ?_
      · rw [e]
        unfold Instr.typeAssert
        simp only [Sem.run_bind, hund, Result.andThen_ok]
        cases hd : i.d <;> first | exact absurd hd (hface _) | simp [ht']
      · cases ok
        · exact hb
        · simp only [ife_true, Rel]; exact ⟨_, rfl, RelL.cons hb (RelL.cons (by simp [Rel, SB.den]) RelL.nil)⟩
    · rename_i ht
      have ht' : t' ≠ u := by simpa [Nat.beq_eq] using ht
      obtain ⟨rfl, rfl, z, u', rfl, hz, hr⟩ := hno h5
      refine VOk.same (u := .tuple #[u', .bool false]) hs ?_ (by simp only [Rel]; exact ⟨_, rfl, RelL.cons hr (RelL.cons (by simp [Rel, SB.den]) RelL.nil)⟩)
      rw [e]
      unfold Instr.typeAssert
      simp only [Sem.run_bind, hund, Result.andThen_ok]
      cases hd : i.d <;> first | exact absurd hd (hface _) | simp [ht', hz w]
  · rw [AV.onNili_iff (by simp)] at h5
    obtain ⟨rfl, h5⟩ := h5
    simp only [Rel] at ha
    obtain ⟨rfl, rfl, z, u', rfl, hz, hr⟩ := hno h5
    refine VOk.same (u := .tuple #[u', .bool false]) hs ?_ (by simp only [Rel]; exact ⟨_, rfl, RelL.cons hr (RelL.cons (by simp [Rel, SB.den]) RelL.nil)⟩)
    rw [ha]
    unfold Instr.typeAssert
    simp only [Sem.run_bind, hund, Result.andThen_ok]
    cases hd : i.d <;> first | exact absurd hd (hface _) | simp [hz w]
theorem evs_ok {τ : Tm} {g : Operand → Value} : ∀ {l : List Operand} {m : List AV}, evs l τ = some m → Opds E τ g l → RelL E m (l.map g)
  | [], m, h, _ => by
    have h' : some [] = some m := h
    injection h' with h'; subst h'; exact RelL.nil
  | x :: l, m, h, hx => by
    have h' : (onSome (ev x τ) none fun a => onSome (evs l τ) none fun m => some (a :: m)) = some m := h
    rw [onSome_iff (by simp)] at h'
    obtain ⟨a, h1, h2⟩ := h'
    rw [onSome_iff (by simp)] at h2
    obtain ⟨m', h3, h4⟩ := h2
    injection h4 with h4; subst h4
    exact RelL.cons (hx x (by simp) a h1) (evs_ok h3 (fun y hy => hx y (by simp [hy])))
theorem xMakeFunc_ok (hs : SRel X W0 C E H w) {f : Fn} {first caps : Array Operand} {τ : Tm} {g : Operand → Value} (hx : Opds E τ g caps.toList) (h : xMakeFunc f first caps C τ H = .val v H') :
    VOk X W0 C E H w (Instr.makeFunc f (first.map g) (caps.map g)) v H' := by
  unfold xMakeFunc at h
  cases f with
  | func f =>
    simp only [onFunc] at h
    cases hf : first.toList with
    | cons a l => rw [hf] at h; simp at h
    | nil =>
      rw [hf] at h
      simp only [onList_nil, onSome_iff, ne_eq, reduceCtorEq, not_false_eq_true] at h
      obtain ⟨cs, h1, h2⟩ := h
      injection h2 with h2 h3; subst h2 h3
      have hfe : first = #[] := by simpa using hf
      subst hfe
      exact VOk.same (u := .func (.func f) #[] (caps.map g)) hs (by simp [Instr.makeFunc]) (by simp only [Rel]; exact ⟨_, rfl, by simpa using evs_ok h1 hx⟩)
  | _ => simp [onFunc] at h
theorem xMakeMap_ok (hs : SRel X W0 C E H w) {t : Nat} {r : Option Operand} {τ : Tm} {g : Operand → Value} (h : xMakeMap t r C τ H = .val v H') : VOk X W0 C E H w (Instr.makeMap t (r.map g)) v H' := by
  unfold xMakeMap at h
  cases r with
  | some x => simp at h
  | none =>
    rw [onSome_none, Heap.new_iff (by simp)] at h
    obtain ⟨h1, h2⟩ := h
    injection h2 with h2 h3; subst h2 h3
    obtain ⟨h4, h5⟩ := hs.new h1 (.map #[] 0) 0 (k := .map []) ⟨#[], 0, alloc_new _ _, ⟨rfl, fun i p e h1 => by simp at h1⟩, fun e he => by simp at he, by simp⟩
    refine ⟨.map (some w.heap.size), _, _, by simp [Instr.makeMap, newObj, Sem.run], h5, ?_, h4, rfl, rfl, by show _ ≤ H.next + 1; omega⟩
    simp only [Rel]
    exact ⟨_, _, _, by show (if H.next = H.next then _ else _) = _; rw [if_pos rfl], rfl⟩
theorem xMakeChan_ok (hC : CtxOk C) (hs : SRel X W0 C E H w) {t : Nat} {x : Operand} {τ : Tm} {g : Operand → Value} (hx : Opds E τ g [x]) (h : xMakeChan t x C τ H = .val v H') : VOk X W0 C E H w (Instr.makeChan t (g x)) v H' := by
  unfold xMakeChan at h
  simp only [onSome_iff, AV.onInt_iff, onNat_iff, TypeDesc.onChan_iff, ife_iff, ne_eq, reduceCtorEq, not_false_eq_true, Nat.ble_eq] at h
  obtain ⟨a, h1, k, e, rfl, n, rfl, i, h2, dir, el, hd, ei, h3, h4, h5, h6⟩ := h
  obtain ⟨I, hT⟩ := hC.tinf h2
  obtain ⟨J, hE⟩ := hC.tinf h3
  rw [Heap.new_iff (by simp)] at h6
  obtain ⟨h7, h8⟩ := h6
  injection h8 with h8 h9; subst h8 h9
  have ha := hx x (by simp) _ h1
  simp only [Rel, SI.den] at ha
  obtain ⟨h10, h11⟩ := hs.new h7 (.chan n #[] false 0 0 false) 0 (k := .chan n []) ⟨#[], 0, 0, alloc_new _ _, RelL.nil⟩
  refine ⟨.chan (some w.heap.size), _, _, ?_, h11, ?_, h10, rfl, rfl, by show _ ≤ H.next + 1; omega⟩
  · rw [ha]
    have hb : J.bytes ≤ 1000 := by rw [← hE.bytes]; exact h5
    have hprod : J.bytes * n ≤ 1000 * 1000 := Nat.mul_le_mul hb h4
    have hc : ¬ ((n : Int) < 0 ∨ (n : Int) > IntKind.i64.max ∨ ((J.bytes : Nat) : Int) * (n : Int) > 2 ^ 48 - 112) := by
      simp only [IntKind.max, IntKind.signed, IntKind.bits]
      have : ((J.bytes : Nat) : Int) * (n : Int) = ((J.bytes * n : Nat) : Int) := by simp
      rw [this]
      simp
      omega
    simp only [Instr.makeChan, asInt, asIntOf, Sem.run_bind, Sem.run_pure, Result.andThen_ok, hT.run_und w, hd, hE.run_info w, Int.ofNat_eq_natCast]
    rw [if_neg hc]
    simp [newObj, Sem.run]
  · simp only [Rel]
    exact ⟨_, _, _, by show (if H.next = H.next then _ else _) = _; rw [if_pos rfl], rfl⟩
end
end Go.Proofs.YtjebljnifeoiaaaGreat.Vm
