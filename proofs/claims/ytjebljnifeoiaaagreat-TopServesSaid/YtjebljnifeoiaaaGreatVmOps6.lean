/- The machine's operations are the model's: new slices, signs, sums, comparisons. No condition but those each theorem names. -/
import Derived.Test.YtjebljnifeoiaaaGreatVmOps5
import Derived.LaidEql
import Derived.ChangeKeysEq
import Derived.Laws.MakeOwn
namespace Go.Proofs.YtjebljnifeoiaaaGreat.Vm
open Go
set_option linter.unusedVariables false
set_option linter.unusedSimpArgs false
section
variable {X : Nat → Prop} {W0 : World} {C : Ctx} {E : Env} {H H' : Heap} {w : World} {v : AV}
theorem xMakeSlice_ok (hC : CtxOk C) (hs : SRel X W0 C E H w) {t : Nat} {l c : Operand} {τ : Tm} {g : Operand → Value} (hx : Opds E τ g [l, c]) (h : xMakeSlice t l c C τ H = .val v H') :
    VOk X W0 C E H w (Instr.makeSlice t (g l) (g c)) v H' := by
  unfold xMakeSlice at h
  simp only [onSome_iff, AV.onInt_iff, onNat_iff, TypeDesc.onSlice_iff, ife_iff, ne_eq, reduceCtorEq, not_false_eq_true, Nat.ble_eq, Nat.blt_eq, Nat.beq_eq, lenAs_eq] at h
  obtain ⟨a, h1, b, h2, kl, e, rfl, kc, e', rfl, ln, rfl, cn, rfl, i, h3, el, hd, ei, h4, z, h5, h6, h7, h8, h9, h10, h11⟩ := h
  obtain ⟨I, hT⟩ := hC.tinf h3
  obtain ⟨J, hE⟩ := hC.tinf h4
  obtain ⟨u, hz, hcl, _, hJz⟩ := zero_ok (E := E) hE h5
  obtain ⟨h12, h13⟩ := rep_rel (n := cn) hcl h10 h9 24 (zero := u.cells) (.inr rfl)
  obtain ⟨H1, E1, k1, k2, k3, k4, k5, k6, k7⟩ := new_ok hs (by simp) h11 (fun _ => h13) h12
  injection k1 with k1 k8; subst k1 k8
  have hl := hx l (by simp) _ h1
  have hc := hx c (by simp) _ h2
  simp only [Rel, SI.den] at hl hc
  have hb : J.bytes * cn ≤ 100000 * 1000000 := Nat.mul_le_mul (by rw [← hE.bytes]; exact h8) h7
  have hrun := run_make (P := C.P) w t el J u (by rw [hT.und, hd]) hE.info hJz kl kc (ln : Int) (cn : Int) (by omega) (by omega) (by rw [← Int.natCast_mul]; omega) (by omega)
  simp only [Int.toNat_natCast] at hrun
  refine ⟨.slice (some ⟨w.heap.size, 0, none⟩) ln cn, _, E1, by rw [hl, hc]; exact hrun, k3, ?_, ?_, k6, k7, by omega⟩
  · simp only [Rel]
    refine ⟨_, _, _, cn, k4, rfl, h6, Nat.le_refl _, fun _ => rfl, ?_⟩
    simp
  · rw [hE.size] at k2; exact k2

/-! ### Numbers -/
theorem intX_ok (hs : SRel X W0 C E H w) {f : IOp} {k : IntKind} {a b : SI} {s : Sem Value} (h : intX f k a b H = .val v H') (hr : s.run C.P w = .ok (.int k (f.den k (a.den E) (b.den E))) w) : VOk X W0 C E H w s v H' := by
  unfold intX at h
  obtain ⟨e, h1, h2⟩ := SI.bin_ok h
  injection h2 with h2 h3; subst h2 h3
  exact VOk.same hs hr (by simp [Rel, h1 E])
theorem boolX_ok (hs : SRel X W0 C E H w) {neg : Bool} {a : Atom} {o : Option Bool} {s : Sem Value} {q : Bool} (h : boolX neg a o H = .val v H') (ho : ∀ r, o = some r → q = r) (hr : s.run C.P w = .ok (.bool (if neg then !q else q)) w) : VOk X W0 C E H w s v H' := by
  unfold boolX at h
  rw [onSome_iff (by simp)] at h
  obtain ⟨r, h1, h2⟩ := h
  injection h2 with h2 h3; subst h2 h3
  rw [ho r h1] at hr
  refine VOk.same hs hr ?_
  cases neg <;> cases r <;> simp [Rel, SB.den]
theorem nonZero_ok {e : SI} (h : nonZero e = true) : e.den E ≠ 0 := by
  unfold nonZero at h
  rw [SI.onLit_iff (by simp)] at h
  obtain ⟨n, rfl, h⟩ := h
  rw [ife_eq, ieq_eq] at h
  simp at h
  simpa [SI.den] using h
theorem notNeg_ok (hs : SRel X W0 C E H w) {e : SI} (h : notNeg C e = true) : ¬ e.den E < 0 := by
  unfold notNeg at h
  rw [onSome_iff (by simp)] at h
  obtain ⟨b, h1, h2⟩ := h
  have := decLt_ok hs h1
  cases b
  · simpa [SI.den] using of_decide_eq_false this
  · simp at h2
theorem kmax_max (k : IntKind) : k.max = (kmax k : Int) := by cases k <;> rfl
theorem intBin_ok (hs : SRel X W0 C E H w) {op : BinOp} {t : Nat} {k k' : IntKind} {a b : SI} (hk : isShift op = true ∨ k = k') (h : intBin op k a b C H = .val v H') :
    VOk X W0 C E H w (binOp op t (.int k (a.den E)) (.int k' (b.den E))) v H' := by
  have hz : ∀ {s : Sem Value}, (nonZero b = true → s.run C.P w = s.run C.P w) := fun _ => rfl
  cases op with
  | shl =>
    have h' : ife (notNeg C b) (intX .shl k a b H) (.bad 38) = .val v H' := h
    rw [ife_iff (by simp)] at h'
    exact intX_ok hs h'.2 (by simp [binOp, Op.shift, notNeg_ok hs h'.1, IOp.den])
  | shr =>
    have h' : ife (notNeg C b) (intX .shr k a b H) (.bad 39) = .val v H' := h
    rw [ife_iff (by simp)] at h'
    exact intX_ok hs h'.2 (by simp [binOp, Op.shift, notNeg_ok hs h'.1, IOp.den])
  | quo =>
    have h' : ife (nonZero b) (intX .quo k a b H) (.bad 35) = .val v H' := h
    rw [ife_iff (by simp)] at h'
    obtain rfl : k = k' := by rcases hk with hk | hk; exact absurd hk (by simp [isShift]); exact hk
    exact intX_ok hs h'.2 (by simp [binOp, Op.intDiv, nonZero_ok h'.1, IOp.den])
  | rem =>
    have h' : ife (nonZero b) (intX .rem k a b H) (.bad 36) = .val v H' := h
    rw [ife_iff (by simp)] at h'
    obtain rfl : k = k' := by rcases hk with hk | hk; exact absurd hk (by simp [isShift]); exact hk
    exact intX_ok hs h'.2 (by simp [binOp, Op.intDiv, nonZero_ok h'.1, IOp.den])
  | add | sub | mul =>
    obtain rfl : k = k' := by rcases hk with hk | hk; exact absurd hk (by simp [isShift]); exact hk
    exact intX_ok hs h (by simp [binOp, Op.intArith, IOp.den])
  | and | or | xor | andNot =>
    obtain rfl : k = k' := by rcases hk with hk | hk; exact absurd hk (by simp [isShift]); exact hk
    exact intX_ok hs h (by simp [binOp, Op.intBits, IOp.den])
  | eql =>
    obtain rfl : k = k' := by rcases hk with hk | hk; exact absurd hk (by simp [isShift]); exact hk
    exact boolX_ok hs (q := decide (a.den E = b.den E)) h (fun r hr => decEq_ok hs hr) (by simp [binOp, Op.intCmp, Int.instDecidableEq]; rfl)
  | neq =>
    obtain rfl : k = k' := by rcases hk with hk | hk; exact absurd hk (by simp [isShift]); exact hk
    exact boolX_ok hs (q := decide (a.den E = b.den E)) h (fun r hr => decEq_ok hs hr) (by simp [binOp, Op.intCmp]; rfl)
  | lss =>
    obtain rfl : k = k' := by rcases hk with hk | hk; exact absurd hk (by simp [isShift]); exact hk
    exact boolX_ok hs (q := decide (a.den E < b.den E)) h (fun r hr => decLt_ok hs hr) (by simp [binOp, Op.intCmp])
  | leq =>
    obtain rfl : k = k' := by rcases hk with hk | hk; exact absurd hk (by simp [isShift]); exact hk
    exact boolX_ok hs (q := decide (b.den E < a.den E)) h (fun r hr => decLt_ok hs hr) (by
      simp [binOp, Op.intCmp]
      rw [Bool.eq_iff_iff]; simp)
  | gtr =>
    obtain rfl : k = k' := by rcases hk with hk | hk; exact absurd hk (by simp [isShift]); exact hk
    exact boolX_ok hs (q := decide (b.den E < a.den E)) h (fun r hr => decLt_ok hs hr) (by simp [binOp, Op.intCmp])
  | geq =>
    obtain rfl : k = k' := by rcases hk with hk | hk; exact absurd hk (by simp [isShift]); exact hk
    exact boolX_ok hs (q := decide (a.den E < b.den E)) h (fun r hr => decLt_ok hs hr) (by
      simp [binOp, Op.intCmp]
      rw [Bool.eq_iff_iff]; simp)
theorem xUn_ok (hs : SRel X W0 C E H w) {op : UnOp} {x : Operand} {τ : Tm} {g : Operand → Value} (hx : Opds E τ g [x]) (h : xUn op x C τ H = .val v H') : VOk X W0 C E H w (Op.unary op (g x)) v H' := by
  unfold xUn at h
  rw [onSome_iff (by simp)] at h
  obtain ⟨a, h1, h⟩ := h
  have ha := hx x (by simp) _ h1
  cases op with
  | neg =>
    have h' : unNeg a H = .val v H' := h
    unfold unNeg at h'
    rw [AV.onInt_iff (by simp)] at h'
    obtain ⟨k, e, rfl, h2⟩ := h'
    simp only [Rel] at ha
    exact intX_ok hs h2 (by simp [ha, Op.unary, Op.intArith, IOp.den, SI.den])
  | xor =>
    have h' : unXor a H = .val v H' := h
    unfold unXor at h'
    rw [AV.onInt_iff (by simp)] at h'
    obtain ⟨k, e, rfl, h2⟩ := h'
    simp only [Rel] at ha
    refine intX_ok hs h2 ?_
    rw [ife_eq]
    simp [ha, Op.unary, Op.intBits, IOp.den, SI.den, kmax_max]
  | not =>
    have h' : unNot a C H = .val v H' := h
    unfold unNot at h'
    simp only [AV.onBool_iff, onSome_iff, ne_eq, reduceCtorEq, not_false_eq_true] at h'
    obtain ⟨s, rfl, b, h2, h3⟩ := h'
    injection h3 with h3 h4; subst h3 h4
    simp only [Rel] at ha
    have hq := decB_ok hs h2
    refine VOk.same (u := .bool (!b)) hs (by simp [ha, Op.unary, hq]) ?_
    cases b <;> simp [Rel, SB.den]
  | _ => exact absurd h (by show R.bad 44 ≠ _; simp)

/-! ### Strings -/
theorem beqNs_eq : ∀ (a b : List Nat), beqNs a b = decide (a = b)
  | [], [] => rfl
  | [], _ :: _ => rfl
  | _ :: _, [] => rfl
  | a :: l, b :: m => by
    show (Nat.beq a b && beqNs l m) = _
    rw [beqNs_eq l m, Bool.eq_iff_iff]
    simp [Nat.beq_eq]
theorem str_eq {s s' : ByteArray} {l l' : List Nat} (h : s.data.toList.map UInt8.toNat = l) (h' : s'.data.toList.map UInt8.toNat = l') : (s.toList == s'.toList) = beqNs l l' := by
  rw [beqNs_eq, ByteArray.toList_eq, ByteArray.toList_eq, Bool.eq_iff_iff]
  subst h h'
  simp only [beq_iff_eq, decide_eq_true_eq]
  constructor
  · intro e; rw [e]
  · intro e
    have hi : Function.Injective UInt8.toNat := fun a b e => UInt8.toNat_inj.1 e
    exact (List.map_inj_right (fun a b e => hi e)).1 e
theorem strBin_ok (hs : SRel X W0 C E H w) {op : BinOp} {t : Nat} {s s' : ByteArray} {l l' : List Nat} (hl : s.data.toList.map UInt8.toNat = l) (hl' : s'.data.toList.map UInt8.toNat = l') (h : strBin op l l' H = .val v H') :
    VOk X W0 C E H w (binOp op t (.string s) (.string s')) v H' := by
  have hq := str_eq hl hl'
  cases op with
  | eql =>
    have h' : R.val (.bool (.lit (beqNs l l'))) H = .val v H' := h
    injection h' with h1 h2; subst h1 h2
    exact VOk.same hs (by simp only [binOp, Op.stringOp, hq]; rfl) (by simp [Rel, SB.den])
  | neq =>
    have h' : R.val (.bool (.lit (ife (beqNs l l') false true))) H = .val v H' := h
    injection h' with h1 h2; subst h1 h2
    refine VOk.same hs (by simp only [binOp, Op.stringOp, hq]; rfl) ?_
    cases beqNs l l' <;> simp [Rel, SB.den]
  | _ => exact absurd h (by show R.bad 41 ≠ _; simp)
end
end Go.Proofs.YtjebljnifeoiaaaGreat.Vm
