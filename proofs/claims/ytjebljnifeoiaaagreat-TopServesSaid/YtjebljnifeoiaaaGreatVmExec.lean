/- The machine's operations are the model's: all of them. No condition but those each theorem names. -/
import Derived.Test.YtjebljnifeoiaaaGreatVmOps15
namespace Go.Proofs.YtjebljnifeoiaaaGreat.Vm
open Go
set_option linter.unusedVariables false
set_option linter.unusedSimpArgs false
section
variable {X : Nat → Prop} {W0 : World} {C : Ctx} {E : Env} {H H' : Heap} {w : World} {v : AV}
theorem Opds.sub {τ : Tm} {g : Operand → Value} {l l' : List Operand} (h : Opds E τ g l) (s : ∀ x, x ∈ l' → x ∈ l) : Opds E τ g l' := fun x hx => h x (s x hx)
theorem XOk.congr {s s' : Sem Next} (h : XOk X W0 C E H w s v H') (e : s'.run C.P w = s.run C.P w) : XOk X W0 C E H w s' v H' := by
  obtain ⟨nx, u, w', E', h1, h2⟩ := h
  exact ⟨nx, u, w', E', e.trans h1, h2⟩
theorem only_val {f : Ctx → Tm → Heap → R} {τ : Tm} (h : only f C τ H = .val v H') : f C τ H = .val v H' := crOut_val h
theorem only_call {f : Ctx → Tm → Heap → R} {τ : Tm} {n : Nat} {as : List AV} (h : only f C τ H = .call n as) : False := crOut_call h
theorem only_dfr {f : Ctx → Tm → Heap → R} {τ : Tm} {q : AV} {as : List AV} (h : only f C τ H = .dfr q as) : False := crOut_dfr h
theorem only_sel {f : Ctx → Tm → Heap → R} {τ : Tm} {q : AV} {K : Heap} (h : only f C τ H = .sel q K) : False := crOut_sel h
theorem sel_inv {cs : Array SelectCase} {b : Bool} {τ : Tm} {r : R} (hr : ∀ n, r ≠ .bad n) (h : xSelect cs b C τ H = r) :
    b = false ∧ ∃ c, cs.toList = [c] ∧ ∃ n cap buf, ev c.chan τ = some (.chan n) ∧ H.tr.get n = some (.chan cap buf) ∧
      ((c.send = none ∧ selRecv n cap buf c.elem C H = r) ∨ ∃ x q, c.send = some x ∧ ev x τ = some q ∧ selSend n cap buf q c.elem C H = r) := by
  have h' : ife b (.bad 207) (onList cs.toList (.bad 207) fun c l => onList l (onSome (ev c.chan τ) (.bad 206) fun w => w.onChan (.bad 206) fun b => onSome (getK H.tr b) (.bad 205) fun k => k.onChan (.bad 205) fun cap buf =>
    onSome c.send (selRecv b cap buf c.elem C H) fun x => onSome (ev x τ) (.bad 202) fun v => selSend b cap buf v c.elem C H) fun _ _ => .bad 207) = r := h
  have hb : ∀ {n : Nat}, R.bad n ≠ r := fun e => hr _ e.symm
  rw [ife_eq] at h'
  split at h'
  · exact absurd h' hb
  · rename_i hbb
    refine ⟨by simpa using hbb, ?_⟩
    rw [onList_iff hb] at h'
    obtain ⟨c, l, hl, h'⟩ := h'
    cases l with
    | cons d l => exact absurd h' hb
    | nil =>
      have h2 : (onSome (ev c.chan τ) (.bad 206) fun w => w.onChan (.bad 206) fun b => onSome (getK H.tr b) (.bad 205) fun k => k.onChan (.bad 205) fun cap buf =>
        onSome c.send (selRecv b cap buf c.elem C H) fun x => onSome (ev x τ) (.bad 202) fun v => selSend b cap buf v c.elem C H) = r := h'
      simp only [onSome_iff (α := AV) (no := R.bad 206) hb, AV.onChan_iff hb, onSome_iff (α := Blk) hb, Blk.onChan_iff hb, getK_eq] at h2
      obtain ⟨a, h3, n, rfl, k, h4, cap, buf, rfl, h5⟩ := h2
      refine ⟨c, hl, n, cap, buf, h3, h4, ?_⟩
      cases hs : c.send with
      | none => rw [hs] at h5; exact .inl ⟨rfl, h5⟩
      | some x =>
        rw [hs] at h5
        have h6 : (onSome (ev x τ) (.bad 202) fun v => selSend n cap buf v c.elem C H) = r := h5
        rw [onSome_iff hb] at h6
        obtain ⟨q, h7, h8⟩ := h6
        exact .inr ⟨x, q, rfl, h7, h8⟩
theorem selRecv_sel {n cap : Nat} {buf : List AV} {el : Nat} {r : R} (hr : ∀ n, r ≠ .bad n) (h : selRecv n cap buf el C H = r) : ∃ q K, r = .sel q K := by
  unfold selRecv at h
  have hb : ∀ {n : Nat}, R.bad n ≠ r := fun e => hr _ e.symm
  simp only [onSome_iff hb] at h
  obtain ⟨_, _, _, _, h3⟩ := h
  cases buf with
  | nil => exact ⟨_, _, h3.symm⟩
  | cons v buf =>
    have h2 : (H.setB n (some (.chan cap buf)) fun H => .sel (.tup [.int .i64 (.lit 0), .bool (.lit true), v]) H) = r := h3
    rw [Heap.setB_eq] at h2
    exact ⟨_, _, h2.symm⟩
theorem selSend_sel {n cap : Nat} {buf : List AV} {q : AV} {el : Nat} {r : R} (hr : ∀ n, r ≠ .bad n) (h : selSend n cap buf q el C H = r) : ∃ q K, r = .sel q K := by
  unfold selSend at h
  have hb : ∀ {n : Nat}, R.bad n ≠ r := fun e => hr _ e.symm
  simp only [onSome_iff hb] at h
  obtain ⟨_, _, _, _, h⟩ := h
  rw [ife_eq] at h
  split at h
  · rw [appK_eq, Heap.setB_eq] at h; exact ⟨_, _, h.symm⟩
  · exact ⟨_, _, h.symm⟩
theorem xSelect_only {cs : Array SelectCase} {b : Bool} {τ : Tm} {r : R} (hr : ∀ n, r ≠ .bad n) (h : xSelect cs b C τ H = r) : ∃ q K, r = .sel q K := by
  obtain ⟨_, c, _, n, cap, buf, _, _, h⟩ := sel_inv hr h
  rcases h with ⟨_, h⟩ | ⟨_, _, _, _, h⟩
  · exact selRecv_sel hr h
  · exact selSend_sel hr h
theorem xSelect_val {cs : Array SelectCase} {b : Bool} {τ : Tm} (v : AV) (H' : Heap) : xSelect cs b C τ H ≠ .val v H' := fun h => by
  obtain ⟨q, K, e⟩ := xSelect_only (by simp) h; cases e
theorem xSelect_call {cs : Array SelectCase} {b : Bool} {τ : Tm} (f : Nat) (as : List AV) : xSelect cs b C τ H ≠ .call f as := fun h => by
  obtain ⟨q, K, e⟩ := xSelect_only (by simp) h; cases e
theorem xSelect_dfr {cs : Array SelectCase} {b : Bool} {τ : Tm} (q : AV) (as : List AV) : xSelect cs b C τ H ≠ .dfr q as := fun h => by
  obtain ⟨q, K, e⟩ := xSelect_only (by simp) h; cases e
theorem exec_val (hC : CtxOk C) (hs : SRel X W0 C E H w) {o : Oper} {τ : Tm} {g : Operand → Value} (hx : Opds E τ g o.op.operands.toList) (h : exec o.op C τ H = .val v H') : XOk X W0 C E H w (execOp g o) v H' := by
  have go : ∀ {s : Sem Next}, execOp g o = s → XOk X W0 C E H w s v H' → XOk X W0 C E H w (execOp g o) v H' := fun e k => e ▸ k
  cases hop : o.op <;> rw [hop] at h hx
  case move x => exact go (by unfold execOp; rw [hop]) (xMove_ok hs hx (only_val h))
  case assign x => exact go (by unfold execOp; rw [hop]) (xMove_ok hs hx (only_val h))
  case pick c a b => exact go (by unfold execOp; rw [hop]) (xPick_ok hs hx (only_val h))
  case alloc t => exact go (by unfold execOp; rw [hop]) (xAlloc_ok hC hs (only_val h)).step
  case box t x => exact go (by unfold execOp; rw [hop]) (xBox_ok hs hx (only_val h)).step
  case build t ps => exact go (by unfold execOp; rw [hop]) (xBuild_ok hC hs (hx.sub (by intro x hx; simpa [Op.operands] using hx)) (only_val h)).step
  case buildSlice t n ps => exact go (by unfold execOp; rw [hop]) (xBuildSlice_ok hC hs (hx.sub (by intro x hx; simpa [Op.operands] using hx)) (only_val h)).step
  case load t x => exact go (by unfold execOp; rw [hop]) (xLoad_ok hC hs hx (only_val h)).step
  case store t x y =>
    refine go ?_ (xStore_ok hC hs hx (only_val h))
    unfold execOp; rw [hop]
  case nilCheck x =>
    obtain ⟨rfl, hr, hv⟩ := xNil_ok hs hx (only_val h)
    refine go (s := pure (.value (g x))) ?_ ⟨_, _, w, E, rfl, rfl, Grew.refl _ _ _, hr, hs, rfl, rfl, Nat.le_refl _⟩
    unfold execOp; rw [hop]
    rcases hv with ⟨a, e⟩ | ⟨f, vs, e⟩ | ⟨t, u, e⟩ <;> simp only [e]
  case binOp op t x y b => exact go (by unfold execOp; rw [hop]) (xBin_ok hC hs hx (only_val h)).step
  case unOp op t x => exact go (by unfold execOp; rw [hop]) (xUn_ok hs hx (only_val h)).step
  case convert s d x => exact go (by unfold execOp; rw [hop]) (xConvert_ok hC hs hx (only_val h)).step
  case makeInterface t x => exact go (by unfold execOp; rw [hop]) (xMakeIface_ok hC hs hx (only_val h)).step
  case makeFunc f a b => exact go (by unfold execOp; rw [hop]) (xMakeFunc_ok hs (hx.sub (by intro x hx; simp [Op.operands]; exact .inr (by simpa using hx))) (only_val h)).step
  case makeMap t r => exact go (by unfold execOp; rw [hop]) (xMakeMap_ok hs (only_val h)).step
  case makeChan t x => exact go (by unfold execOp; rw [hop]) (xMakeChan_ok hC hs hx (only_val h)).step
  case makeSlice t l c => exact go (by unfold execOp; rw [hop]) (xMakeSlice_ok hC hs hx (only_val h)).step
  case slice t x lo hi mx => exact go (by unfold execOp; rw [hop]) (xSlice_ok (lo := lo) (hi := hi) (mx := mx) (x := x) (t := t) (g := g) (τ := τ) hC hs (hx.sub (by intro y hy; simp [Op.operands]; simpa using hy)) (only_val h)).step
  case fieldAddr t x f => exact go (by unfold execOp; rw [hop]) (xFieldAddr_ok hC hs hx (only_val h)).step
  case field t x f => exact go (by unfold execOp; rw [hop]) (xField_ok hC hs hx (only_val h)).step
  case indexAddr t x i => exact go (by unfold execOp; rw [hop]) (xIndexAddr_ok hC hs hx (only_val h)).step
  case index t x i => exact go (by unfold execOp; rw [hop]) (xIndex_ok hC hs hx (only_val h)).step
  case lookup t x i ok => exact go (by unfold execOp; rw [hop]) (xLookup_ok hC hs hx (only_val h)).step
  case mapUpdate t m k y =>
    refine go ?_ (xMapUpdate_ok hC hs hx (only_val h))
    unfold execOp; rw [hop]
  case range t x => exact go (by unfold execOp; rw [hop]) (xRange_ok hC hs hx (only_val h)).step
  case entry x => exact go (by unfold execOp; rw [hop]) (xEntry_ok hs hx (only_val h)).step
  case typeAssert x t u ok => exact go (by unfold execOp; rw [hop]) (xAssert_ok hC hs hx (only_val h)).step
  case extract x i => exact go (by unfold execOp; rw [hop]) (xExtract_ok hs hx (only_val h)).step
  case call c =>
    have h' : (onSome (evs c.args.toList τ) (.bad 192) fun args => xCallee c.callee c.argTypes.toList args C τ H) = .val v H' := h
    rw [onSome_iff (by simp)] at h'
    obtain ⟨as, h1, h2⟩ := h'
    have hr := evs_ok (E := E) (g := g) h1 (fun x hxx => hx x (by simp [Op.operands, Call.operands]; exact .inr (by simpa using hxx)))
    cases hc : c.callee with
    | value fo =>
      rw [hc] at h2
      have h3 : callV fo as τ = .val v H' := h2
      unfold callV at h3
      simp only [onSome_iff, AV.onFn_iff, appK_eq, ne_eq, reduceCtorEq, not_false_eq_true, and_false, exists_false] at h3
    | invoke ro name =>
      rw [hc] at h2
      have h3 : callI ro name as C τ = .val v H' := h2
      unfold callI at h3
      simp only [onSome_iff, AV.onIface_iff, ne_eq, reduceCtorEq, not_false_eq_true, and_false, exists_false] at h3
    | builtin b =>
      rw [hc] at h2
      have h3 : crOut (xBuiltin b c.argTypes.toList as C H) .val = .val v H' := h2
      have hb := builtin_ok (ty := o.type) (cs := c.args.map fun | .const _ => true | _ => false) hC hs hr (crOut_val h3)
      refine XOk.congr hb ?_
      unfold execOp
      rw [hop]
      have ha : (c.args.toList.map g).toArray = c.args.map g := by apply Array.toList_inj.1; simp
      rw [ha]
      simp [resolve, hc, invoke]
      rfl
  case defer c =>
    have h' : (onSome (evs c.args.toList τ) (.bad 194) fun args => deferee c.callee args τ) = .val v H' := h
    rw [onSome_iff (by simp)] at h'
    obtain ⟨as, h1, h2⟩ := h'
    cases hc : c.callee with
    | value fo =>
      rw [hc] at h2
      have h3 : (onSome (ev fo τ) (R.bad 193) fun v => v.onFn (R.bad 193) fun _ _ => R.dfr v as) = R.val v H' := h2
      simp only [onSome_iff, AV.onFn_iff, ne_eq, reduceCtorEq, not_false_eq_true, and_false, exists_false] at h3
    | _ => rw [hc] at h2; cases h2
  case select cs b =>
    exact absurd h (xSelect_val _ _)
  all_goals exact absurd h (by show R.bad 195 ≠ _; simp)
/-- A call. -/
theorem exec_call (hC : CtxOk C) {o : Oper} {τ : Tm} {g : Operand → Value} {f : Nat} {args : List AV} (hx : Opds E τ g o.op.operands.toList) (h : exec o.op C τ H = .call f args) :
    ∃ us, RelL E args us ∧ ∀ w, (execOp g o).run C.P w = (callFunc f us.toArray).run C.P w := by
  cases hop : o.op <;> rw [hop] at h hx
  case call c =>
    refine xCall_call hC hop (hx.sub (fun x hxx => ?_)) h
    simp [Op.operands, Call.operands]
    simp at hxx
    rcases hxx with h1 | h1
    · exact .inr h1
    · left
      cases hc : c.callee <;> rw [hc] at h1 <;> first | (simp at h1; done) | simpa using h1
  case defer c =>
    have h' : (onSome (evs c.args.toList τ) (.bad 194) fun args => deferee c.callee args τ) = .call f args := h
    rw [onSome_iff (by simp)] at h'
    obtain ⟨as, h1, h2⟩ := h'
    cases hc : c.callee with
    | value fo =>
      rw [hc] at h2
      have h3 : (onSome (ev fo τ) (R.bad 193) fun v => v.onFn (R.bad 193) fun _ _ => R.dfr v as) = R.call f args := h2
      simp only [onSome_iff, AV.onFn_iff, ne_eq, reduceCtorEq, not_false_eq_true, and_false, exists_false] at h3
    | _ => rw [hc] at h2; cases h2
  case select cs b => exact absurd h (xSelect_call _ _)
  all_goals first | exact (only_call h).elim | exact absurd h (by show R.bad 195 ≠ _; simp)
/-- A call that is put off. -/
theorem exec_dfr {o : Oper} {τ : Tm} {g : Operand → Value} {q : AV} {args : List AV} (hx : Opds E τ g o.op.operands.toList) (h : exec o.op C τ H = .dfr q args) :
    ∃ f cs vs us, q = .fn f cs ∧ RelL E cs vs ∧ RelL E args us ∧ ∀ w, (execOp g o).run C.P w = .ok (.defer { target := .fn (.func f) vs.toArray, args := us.toArray }) w := by
  cases hop : o.op <;> rw [hop] at h hx
  case defer c =>
    have h' : (onSome (evs c.args.toList τ) (.bad 194) fun args => deferee c.callee args τ) = .dfr q args := h
    rw [onSome_iff (by simp)] at h'
    obtain ⟨as, h1, h2⟩ := h'
    have hr := evs_ok (E := E) (g := g) h1 (fun x hxx => hx x (by simp [Op.operands, Call.operands]; exact .inr (by simpa using hxx)))
    cases hc : c.callee with
    | value fo =>
      rw [hc] at h2
      have h3 : (onSome (ev fo τ) (R.bad 193) fun v => v.onFn (R.bad 193) fun _ _ => R.dfr v as) = R.dfr q args := h2
      simp only [onSome_iff, AV.onFn_iff, ne_eq, reduceCtorEq, not_false_eq_true] at h3
      obtain ⟨a, h4, f, cs, rfl, h5⟩ := h3
      injection h5 with h5 h6; subst h5 h6
      have hv := hx fo (by simp [Op.operands, Call.operands, hc]) _ h4
      simp only [Rel] at hv
      obtain ⟨vs, e, hvs⟩ := hv
      refine ⟨f, cs, vs.toList, _, rfl, hvs, hr, fun w => ?_⟩
      unfold execOp
      rw [hop]
      have ha : (c.args.toList.map g).toArray = c.args.map g := by apply Array.toList_inj.1; simp
      rw [ha]
      simp [resolve, hc, e, Deferred.ofValue]
    | _ => rw [hc] at h2; cases h2
  case call c =>
    have h' : (onSome (evs c.args.toList τ) (.bad 192) fun args => xCallee c.callee c.argTypes.toList args C τ H) = .dfr q args := h
    rw [onSome_iff (by simp)] at h'
    obtain ⟨as, h1, h2⟩ := h'
    cases hc : c.callee with
    | value fo =>
      rw [hc] at h2
      have h3 : callV fo as τ = .dfr q args := h2
      unfold callV at h3
      simp only [onSome_iff, AV.onFn_iff, appK_eq, ne_eq, reduceCtorEq, not_false_eq_true, and_false, exists_false] at h3
    | invoke ro name =>
      rw [hc] at h2
      have h3 : callI ro name as C τ = .dfr q args := h2
      unfold callI at h3
      simp only [onSome_iff, AV.onIface_iff, ne_eq, reduceCtorEq, not_false_eq_true, and_false, exists_false] at h3
    | builtin b =>
      rw [hc] at h2
      exact (crOut_dfr (show crOut (xBuiltin b c.argTypes.toList as C H) .val = .dfr q args from h2)).elim
  case select cs b => exact absurd h (xSelect_dfr _ _)
  all_goals first | exact (only_dfr h).elim | exact absurd h (by show R.bad 195 ≠ _; simp)
/-- A choice. -/
theorem exec_sel {o : Oper} {τ : Tm} {q : AV} {K : Heap} (h : exec o.op C τ H = .sel q K) : ∃ cs b, o.op = .select cs b ∧ xSelect cs b C τ H = .sel q K := by
  cases hop : o.op <;> rw [hop] at h
  case defer c =>
    have h' : (onSome (evs c.args.toList τ) (.bad 194) fun args => deferee c.callee args τ) = .sel q K := h
    rw [onSome_iff (by simp)] at h'
    obtain ⟨as, h1, h2⟩ := h'
    cases hc : c.callee with
    | value fo =>
      rw [hc] at h2
      have h3 : (onSome (ev fo τ) (R.bad 193) fun v => v.onFn (R.bad 193) fun _ _ => R.dfr v as) = R.sel q K := h2
      simp only [onSome_iff, AV.onFn_iff, ne_eq, reduceCtorEq, not_false_eq_true, and_false, exists_false] at h3
    | _ => rw [hc] at h2; cases h2
  case call c =>
    have h' : (onSome (evs c.args.toList τ) (.bad 192) fun args => xCallee c.callee c.argTypes.toList args C τ H) = .sel q K := h
    rw [onSome_iff (by simp)] at h'
    obtain ⟨as, h1, h2⟩ := h'
    cases hc : c.callee with
    | value fo =>
      rw [hc] at h2
      have h3 : callV fo as τ = .sel q K := h2
      unfold callV at h3
      simp only [onSome_iff, AV.onFn_iff, appK_eq, ne_eq, reduceCtorEq, not_false_eq_true, and_false, exists_false] at h3
    | invoke ro name =>
      rw [hc] at h2
      have h3 : callI ro name as C τ = .sel q K := h2
      unfold callI at h3
      simp only [onSome_iff, AV.onIface_iff, ne_eq, reduceCtorEq, not_false_eq_true, and_false, exists_false] at h3
    | builtin b =>
      rw [hc] at h2
      exact (crOut_sel (show crOut (xBuiltin b c.argTypes.toList as C H) .val = .sel q K from h2)).elim
  case select cs b => exact ⟨cs, b, rfl, h⟩
  all_goals first | exact (only_sel h).elim | exact absurd h (by show R.bad 195 ≠ _; simp)
end
end Go.Proofs.YtjebljnifeoiaaaGreat.Vm
