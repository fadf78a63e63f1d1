/- The machine's operations are the model's: calls, what is built in. No condition but those each theorem names. -/
import Derived.Test.YtjebljnifeoiaaaGreatVmOps14
namespace Go.Proofs.YtjebljnifeoiaaaGreat.Vm
open Go
set_option linter.unusedVariables false
set_option linter.unusedSimpArgs false
section
variable {X : Nat → Prop} {W0 : World} {C : Ctx} {E : Env} {H H' : Heap} {w : World} {v : AV}
theorem one_iff {l : List AV} {κ : AV → R} {r : R} (h : R.bad 188 ≠ r) : one l κ = r ↔ ∃ a, l = [a] ∧ κ a = r := by
  cases l with
  | nil => exact ⟨fun e => absurd e h, fun ⟨a, e, _⟩ => by cases e⟩
  | cons a l =>
    cases l with
    | nil => exact ⟨fun e => ⟨a, rfl, e⟩, fun ⟨a, e, e2⟩ => by cases e; exact e2⟩
    | cons b l => exact ⟨fun e => absurd e h, fun ⟨a, e, _⟩ => by cases e⟩
theorem two_iff {l : List AV} {κ : AV → AV → R} {r : R} (h : R.bad 188 ≠ r) : two l κ = r ↔ ∃ a b, l = [a, b] ∧ κ a b = r := by
  cases l with
  | nil => exact ⟨fun e => absurd e h, fun ⟨a, b, e, _⟩ => by cases e⟩
  | cons a l =>
    cases l with
    | nil => exact ⟨fun e => absurd e h, fun ⟨a, b, e, _⟩ => by cases e⟩
    | cons b l =>
      cases l with
      | nil => exact ⟨fun e => ⟨a, b, rfl, e⟩, fun ⟨a, b, e, e2⟩ => by cases e; exact e2⟩
      | cons c l => exact ⟨fun e => absurd e h, fun ⟨a, b, e, _⟩ => by cases e⟩
theorem ty1_iff {ts : Array TypeId} {κ : Nat → R} {r : R} (h : R.bad 188 ≠ r) (e : ty1 ts.toList κ = r) : ∃ t : Nat, ts[0]? = some t ∧ κ t = r := by
  obtain ⟨l⟩ := ts
  cases l with
  | nil => exact absurd e h
  | cons a l => exact ⟨a, rfl, e⟩
theorem ty2_iff {ts : Array TypeId} {κ : Nat → Nat → R} {r : R} (h : R.bad 188 ≠ r) (e : ty2 ts.toList κ = r) : ∃ t u : Nat, ts[0]? = some t ∧ ts[1]? = some u ∧ κ t u = r := by
  obtain ⟨l⟩ := ts
  cases l with
  | nil => exact absurd e h
  | cons a l =>
    cases l with
    | nil => exact absurd e h
    | cons b l => exact ⟨a, b, rfl, rfl, e⟩
theorem rel_one {a : AV} {us : List Value} (h : RelL E [a] us) : ∃ u, us = [u] ∧ Rel E a u := by
  rw [RelL.cons_iff] at h
  obtain ⟨u, m, rfl, h1, h2⟩ := h
  rw [RelL.nil_iff] at h2
  subst h2
  exact ⟨u, rfl, h1⟩
theorem rel_two {a b : AV} {us : List Value} (h : RelL E [a, b] us) : ∃ u q, us = [u, q] ∧ Rel E a u ∧ Rel E b q := by
  rw [RelL.cons_iff] at h
  obtain ⟨u, m, rfl, h1, h2⟩ := h
  obtain ⟨q, rfl, h3⟩ := rel_one h2
  exact ⟨u, q, rfl, h1, h3⟩
theorem builtin_ok (hC : CtxOk C) (hs : SRel X W0 C E H w) {b : Builtin} {ts : Array TypeId} {ty : TypeId} {cs : Array Bool} {as : List AV} {us : List Value} (hr : RelL E as us) (h : xBuiltin b ts.toList as C H = .val v H') :
    XOk X W0 C E H w (builtin b ts ty cs us.toArray) v H' := by
  have hn : R.bad 188 ≠ R.val v H' := by simp
  cases b with
  | append =>
    obtain ⟨t, u, h1, h2, h⟩ := ty2_iff hn h
    obtain ⟨s, x, rfl, h⟩ := (two_iff hn).1 h
    obtain ⟨S, q, rfl, hS, hq⟩ := rel_two hr
    exact (xAppend_ok hC hs hS hq h1 h2 h).step
  | cap =>
    obtain ⟨t, h1, h⟩ := ty1_iff hn h
    obtain ⟨x, rfl, h⟩ := (one_iff hn).1 h
    obtain ⟨u, rfl, hu⟩ := rel_one hr
    exact (xCap_ok hC hs hu h1 h).step
  | clear =>
    obtain ⟨t, h1, h⟩ := ty1_iff hn h
    obtain ⟨x, rfl, h⟩ := (one_iff hn).1 h
    obtain ⟨u, rfl, hu⟩ := rel_one hr
    exact (xClear_ok hC hs hu h1 h).step
  | copy =>
    obtain ⟨t, h1, h⟩ := ty1_iff hn h
    obtain ⟨s, x, rfl, h⟩ := (two_iff hn).1 h
    obtain ⟨S, q, rfl, hS, hq⟩ := rel_two hr
    exact (xCopy_ok hC hs hS hq h1 h).step
  | delete =>
    obtain ⟨t, h1, h⟩ := ty1_iff hn h
    obtain ⟨s, x, rfl, h⟩ := (two_iff hn).1 h
    obtain ⟨S, q, rfl, hS, hq⟩ := rel_two hr
    exact (xDelete_ok hC hs hS hq h1 h).step
  | len =>
    obtain ⟨t, h1, h⟩ := ty1_iff hn h
    obtain ⟨x, rfl, h⟩ := (one_iff hn).1 h
    obtain ⟨u, rfl, hu⟩ := rel_one hr
    exact (xLen_ok hC hs hu h1 h).step
  | unsafeSliceData =>
    obtain ⟨x, rfl, h⟩ := (one_iff hn).1 h
    obtain ⟨u, rfl, hu⟩ := rel_one hr
    exact (xSliceData_ok hs hu h).step
  | unsafeString =>
    obtain ⟨t, h1, h⟩ := ty1_iff hn h
    obtain ⟨s, x, rfl, h⟩ := (two_iff hn).1 h
    obtain ⟨S, q, rfl, hS, hq⟩ := rel_two hr
    exact (xUString_ok hC hs hS hq h1 h).step
  | _ => exact absurd h hn
theorem findMethod_eq (name : String) : ∀ l : List Method, findMethod name l = l.find? (·.name == name)
  | [] => rfl
  | m :: l => by
    show ife (m.name == name) (some m) (findMethod name l) = _
    rw [findMethod_eq name l, List.find?_cons]
    cases (m.name == name) <;> rfl
theorem method_ok (hC : CtxOk C) {t f : Nat} {name : String} (h : methodA C t name = some f) (u : Value) (n : Nat) (w : World) : (method (n + 1) t u name).run C.P w = .ok (f, u) w := by
  unfold methodA at h
  simp only [onSome_iff, TypeDesc.onPointer_iff, ife_iff, ne_eq, reduceCtorEq, not_false_eq_true] at h
  obtain ⟨i, h1, ti, h2, el, hd, m, h3, p, h4, h5, h6, h7⟩ := h
  obtain ⟨I, hT⟩ := hC.tinf h2
  rw [findMethod_eq, Array.find?_toList] at h3
  injection h7 with h7
  have hp : m.path.toList = [] := by simpa using h6
  have hi : (typeInfo t).run C.P w = .ok i w := by simp [typeInfo, h1]
  obtain ⟨pf, pb⟩ := p
  simp only at h5 h7
  subst h5 h7
  have hm : i.methods.find? (·.name == name) = some m := by simpa using h3
  have hund := hT.run_und w
  rw [hd] at hund
  unfold method
  simp [hi, hm, hp, follow, h4, receiverAt, hund, Place.get]
theorem crOut_call {x : R} {f : Nat} {as : List AV} : ¬ crOut x .val = .call f as := by cases x <;> intro h <;> cases h
theorem crOut_dfr {x : R} {q : AV} {as : List AV} : ¬ crOut x .val = .dfr q as := by cases x <;> intro h <;> cases h
theorem crOut_sel {x : R} {q : AV} {K : Heap} : ¬ crOut x .val = .sel q K := by cases x <;> intro h <;> cases h
theorem crOut_val {x : R} (h : crOut x .val = .val v H') : x = .val v H' := by cases x <;> first | exact h | cases h
/-- What a call of the machine's comes to in the model. -/
theorem xCall_call (hC : CtxOk C) {c : Call} {τ : Tm} {g : Operand → Value} {f : Nat} {args : List AV} {o : Oper} (ho : o.op = .call c)
    (hx : Opds E τ g (c.args.toList ++ match c.callee with | .value f => [f] | .invoke r _ => [r] | _ => [])) (h : xCall c C τ H = .call f args) :
    ∃ us, RelL E args us ∧ ∀ w, (execOp g o).run C.P w = (callFunc f us.toArray).run C.P w := by
  unfold xCall at h
  rw [onSome_iff (by simp)] at h
  obtain ⟨as, h1, h⟩ := h
  have hr := evs_ok (E := E) (g := g) h1 (fun x hxx => hx x (by simp at hxx ⊢; exact .inl hxx))
  cases hc : c.callee with
  | value fo =>
    rw [hc] at h hx
    have h' : callV fo as τ = .call f args := h
    unfold callV at h'
    simp only [onSome_iff, AV.onFn_iff, appK_eq, ne_eq, reduceCtorEq, not_false_eq_true] at h'
    obtain ⟨a, h2, f', cs, rfl, h3⟩ := h'
    injection h3 with h3 h4; subst h3 h4
    have hv := hx fo (by simp) _ h2
    simp only [Rel] at hv
    obtain ⟨vs, e, hvs⟩ := hv
    refine ⟨c.args.toList.map g ++ vs.toList, hr.app hvs, fun w => ?_⟩
    unfold execOp
    rw [ho]
    have ha : (c.args.toList.map g ++ vs.toList).toArray = c.args.map g ++ vs := by apply Array.toList_inj.1; simp
    rw [ha]
    simp [resolve, hc, e, Deferred.ofValue, invoke]
  | invoke ro name =>
    rw [hc] at h hx
    have h' : callI ro name as C τ = .call f args := h
    unfold callI at h'
    simp only [onSome_iff, AV.onIface_iff, ne_eq, reduceCtorEq, not_false_eq_true] at h'
    obtain ⟨a, h2, t, q, rfl, f', h3, h4⟩ := h'
    injection h4 with h4 h5; subst h4 h5
    have hv := hx ro (by simp) _ h2
    simp only [Rel] at hv
    obtain ⟨u, e, hu⟩ := hv
    refine ⟨u :: c.args.toList.map g, RelL.cons hu hr, fun w => ?_⟩
    have hm : ∀ w, (method (C.P.types.size + Made.depth) t u name).run C.P w = .ok (f', u) w := fun w => method_ok hC h3 u _ w
    unfold execOp
    rw [ho]
    have ha : (u :: c.args.toList.map g).toArray = #[u] ++ c.args.map g := by apply Array.toList_inj.1; simp
    have h0 : (#[Value.iface t u] ++ c.args.map g)[0]? = some (.iface t u) := by simp [Array.getElem?_append]
    have hx2 : (c.args.map g).extract 0 c.args.size = c.args.map g := by rw [show c.args.size = (c.args.map g).size by simp, Array.extract_size]
    rw [ha]
    simp [resolve, hc, e, invoke, callMethod, hm, Array.extract_append, h0, hx2]
  | builtin b =>
    rw [hc] at h
    have h' : crOut (xBuiltin b c.argTypes.toList as C H) .val = .call f args := h
    exact absurd h' crOut_call
end
end Go.Proofs.YtjebljnifeoiaaaGreat.Vm
