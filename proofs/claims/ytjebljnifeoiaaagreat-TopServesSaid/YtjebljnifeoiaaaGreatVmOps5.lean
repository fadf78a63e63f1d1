/- The machine's operations are the model's: indexes, slices, numbers. No condition but those each theorem names. -/
import Derived.Test.YtjebljnifeoiaaaGreatVmOps4
namespace Go.Proofs.YtjebljnifeoiaaaGreat.Vm
open Go
set_option linter.unusedVariables false
set_option linter.unusedSimpArgs false
section
variable {X : Nat → Prop} {W0 : World} {C : Ctx} {E : Env} {H H' : Heap} {w : World} {v : AV}
theorem xIndexAddr_ok (hC : CtxOk C) (hs : SRel X W0 C E H w) {t : Nat} {x ix : Operand} {τ : Tm} {g : Operand → Value} (hx : Opds E τ g [x, ix]) (h : xIndexAddr t x ix C τ H = .val v H') : VOk X W0 C E H w (Instr.indexAt t (g x) (g ix)) v H' := by
  unfold xIndexAddr at h
  simp only [onSome_iff, AV.onInt_iff, ne_eq, reduceCtorEq, not_false_eq_true] at h
  obtain ⟨a, h1, b, h2, k, e, rfl, i, h3, h4⟩ := h
  obtain ⟨I, hT⟩ := hC.tinf h3
  have ha := hx x (by simp) _ h1
  have hb := hx ix (by simp) _ h2
  simp only [Rel] at hb
  have hund := hT.run_und w
  rw [TypeDesc.onArray_eq] at h4
  split at h4
  · rename_i n el hd
    simp only [onSome_iff, AV.onPtr_iff, onNat_iff, ife_iff, ne_eq, reduceCtorEq, not_false_eq_true, forceN_eq, Nat.blt_eq] at h4
    obtain ⟨b', o, rfl, ei, h5, q, rfl, h6, h7⟩ := h4
    injection h7 with h7 h8; subst h7 h8
    obtain ⟨J, hE⟩ := hC.tinf h5
    simp only [Rel] at ha
    obtain ⟨r, ba, en, h9, e⟩ := ha
    refine VOk.same (u := .pointer (some ⟨r, ba + (o + q * ei.size), none⟩)) hs ?_ (by simp only [Rel]; exact ⟨r, ba, en, h9, rfl⟩)
    rw [e, hb]
    unfold Instr.indexAt
    simp only [SI.den, asIntOf, Sem.run_bind, Sem.run_pure, Result.andThen_ok, hund, hd, Instr.sureAddr]
    rw [if_pos ⟨by simp, by simpa using h6⟩]
    simp [hE.run_size w, add_none, Nat.add_assoc]
  · rename_i hnot
    rw [TypeDesc.onSlice_iff (by simp)] at h4
    obtain ⟨el, hd, h4⟩ := h4
    rw [AV.onSlc_eq] at h4
    split at h4
    · simp only [onSome_iff, onNat_iff, ife_iff, ne_eq, reduceCtorEq, not_false_eq_true, forceN_eq, Nat.blt_eq, Nat.beq_eq] at h4
      obtain ⟨ei, h5, q, rfl, h6, h7, h8⟩ := h4
      injection h8 with h8 h9; subst h8 h9
      obtain ⟨J, hE⟩ := hC.tinf h5
      simp only [Rel] at ha
      obtain ⟨r, ba, en, c, h10, e, _⟩ := ha
      rename_i b' o len lo ex esz _
      refine VOk.same (u := .pointer (some ⟨r, ba + (o + q * esz), none⟩)) hs ?_ (by simp only [Rel]; exact ⟨r, ba, en, h10, rfl⟩)
      rw [e, hb, h7]
      unfold Instr.indexAt
      simp only [SI.den, asIntOf, Sem.run_bind, Sem.run_pure, Result.andThen_ok, hund, hd]
      rw [if_pos ⟨by simp, by simpa using h6⟩]
      simp [hE.run_size w, add_none, Nat.add_assoc]
    · rw [AV.onFsl_iff (by simp)] at h4
      obtain ⟨s, rfl, h4⟩ := h4
      unfold atF at h4
      simp only [onSome_iff, ife_iff, ne_eq, reduceCtorEq, not_false_eq_true, Nat.beq_eq] at h4
      obtain ⟨ei, h5, ks, h6, h7, d1, h8, h9⟩ := h4
      rw [ife_no (by simp)] at h9
      obtain ⟨rfl, h9⟩ := h9
      simp only [onSome_iff, ife_iff, ne_eq, reduceCtorEq, not_false_eq_true] at h9
      obtain ⟨d2, h10, rfl, h11⟩ := h9
      injection h11 with h11 h12; subst h11 h12
      obtain ⟨J, hE⟩ := hC.tinf h5
      have q1 : ¬ (e.den E < 0) := of_decide_eq_false (decLt_ok hs h8)
      have q2 : e.den E < (E.fs s).len := of_decide_eq_true (decLt_ok hs h10)
      obtain ⟨he, hval⟩ := hs.fk.val s ks h6
      simp only [Rel] at ha
      rw [lenL_eq] at h7
      rcases hval with ⟨_, h13⟩ | ⟨_, c, h13⟩
      · omega
      · refine VOk.same (u := .pointer (some ⟨(E.fs s).blk, (E.fs s).off + (e.den E).toNat * (E.fs s).esz + 0, none⟩)) hs ?_ (by simp only [Rel]; exact ⟨trivial, by omega, by omega⟩)
        rw [ha, h13, hb]
        unfold Instr.indexAt
        simp only [asIntOf, Sem.run_bind, Sem.run_pure, Result.andThen_ok, hund, hd]
        rw [if_pos ⟨by omega, by omega⟩]
        simp [hE.run_size w, add_none, he, h7]
theorem ba_get {s : ByteArray} {l : List Nat} (h : s.data.toList.map UInt8.toNat = l) (q c : Nat) (hq : l[q]? = some c) : ∃ b : UInt8, s[q]? = some b ∧ b.toNat = c := by
  subst h
  rw [List.getElem?_map] at hq
  cases hg : s.data.toList[q]? with
  | none => rw [hg] at hq; cases hq
  | some b =>
    rw [hg] at hq
    simp at hq
    have h1 : q < s.size := by
      have := (List.getElem?_eq_some_iff.1 hg).1
      show q < s.data.size
      simpa using this
    refine ⟨b, ?_, hq⟩
    rw [getElem?_pos s q h1]
    have h2 := (List.getElem?_eq_some_iff.1 hg).2
    rw [← h2]; simp; rfl
theorem xIndex_ok (hC : CtxOk C) (hs : SRel X W0 C E H w) {t : Nat} {x ix : Operand} {τ : Tm} {g : Operand → Value} (hx : Opds E τ g [x, ix]) (h : xIndex t x ix C τ H = .val v H') : VOk X W0 C E H w (Instr.index t (g x) (g ix)) v H' := by
  unfold xIndex at h
  simp only [onSome_iff, AV.onInt_iff, onNat_iff, ne_eq, reduceCtorEq, not_false_eq_true] at h
  obtain ⟨a, h1, b, h2, k, e, rfl, q, rfl, i, h3, h4⟩ := h
  obtain ⟨I, hT⟩ := hC.tinf h3
  have ha := hx x (by simp) _ h1
  have hb : g ix = .int k (q : Int) := by have := hx ix (by simp) _ h2; simpa [Rel, SI.den] using this
  have hund := hT.run_und w
  rw [AV.onStr_eq] at h4
  split at h4
  · rename_i l
    simp only [onSome_iff, TypeDesc.onString_iff, ne_eq, reduceCtorEq, not_false_eq_true, nth_eq] at h4
    obtain ⟨hd, c, h5, h6⟩ := h4
    injection h6 with h6 h7; subst h6 h7
    simp only [Rel] at ha
    obtain ⟨s, e, hl⟩ := ha
    obtain ⟨u, hu, hc⟩ := ba_get hl q c h5
    refine VOk.same (u := .int .u8 u.toNat) hs ?_ (by simp [Rel, SI.den, hc])
    rw [e, hb]
    unfold Instr.index
    simp [asIntOf, hund, hd, hu]
  · simp only [onSome_iff, AV.onAgg_iff, TypeDesc.onArray_iff, ife_iff, ne_eq, reduceCtorEq, not_false_eq_true, Nat.blt_eq] at h4
    obtain ⟨cs, rfl, n, el, hd, ei, h5, h6, h7⟩ := h4
    obtain ⟨J, hE⟩ := hC.tinf h5
    obtain ⟨c, h8, h9⟩ := partA_ok (E := E) hC (by simp) h7
    injection h8 with h8 h10; subst h8 h10
    simp only [Rel] at ha
    obtain ⟨vs, e, hv⟩ := ha
    obtain ⟨u, hu, hr⟩ := h9 vs hv
    refine VOk.same hs ?_ hr
    rw [e, hb]
    unfold Instr.index
    simp only [asIntOf, Sem.run_bind, Sem.run_pure, Result.andThen_ok, hund, hd]
    rw [if_pos ⟨by simp, by simpa using h6⟩]
    simp only [Sem.run_bind, hE.run_size w, Result.andThen_ok]
    exact hu w

/-! ### Slices -/
theorem evOpt_ok {τ : Tm} {o : Option Operand} {no : R} {κ : Option Nat → R} {r : R} (hn : no ≠ r) (h : evOpt τ o no κ = r) {g : Operand → Value} (hx : Opds E τ g o.toList) :
    ∃ q : Option Nat, κ q = r ∧ ((o = none ∧ q = none) ∨ ∃ (x : Operand) (n : Nat) (k : IntKind), o = some x ∧ q = some n ∧ g x = .int k (n : Int)) := by
  unfold evOpt at h
  cases o with
  | none => exact ⟨none, h, .inl ⟨rfl, rfl⟩⟩
  | some x =>
    simp only [onSome_some, onSome_iff hn, AV.onInt_iff hn, onNat_iff hn] at h
    obtain ⟨a, h1, k, e, rfl, n, rfl, h2⟩ := h
    have := hx x (by simp) _ h1
    simp only [Rel, SI.den] at this
    exact ⟨some n, h2, .inr ⟨x, n, k, rfl, rfl, this⟩⟩
theorem orN_eq (o : Option Nat) (d : Nat) : orN o d = o.getD d := by cases o <;> rfl
theorem bound_ok {P : Program} (k : IntKind) (n y : Nat) (code : BoundsCode) (h : n ≤ y) (w : World) : (Instr.sliceBound (.int k (n : Int)) y code).run P w = .ok n w := by
  unfold Instr.sliceBound
  simp only [asIntOf, Sem.run_bind, Sem.run_pure, Result.andThen_ok]
  rw [if_pos ⟨by omega, by omega⟩]
  simp
/-- An operand that is not there, or the number n. -/
def OptIs (o : Option Value) (q : Option Nat) : Prop := (o = none ∧ q = none) ∨ ∃ (n : Nat) (k : IntKind), o = some (.int k (n : Int)) ∧ q = some n
theorem bounds_ok {P : Program} (isSlice : Bool) (len cap : Nat) {lo hi mx : Option Value} {l h m : Option Nat} (hl : OptIs lo l) (hh : OptIs hi h) (hm : OptIs mx m) (hmh : m.isSome = true → h.isSome = true)
    (h1 : m.getD cap ≤ cap) (h2 : h.getD len ≤ m.getD cap) (h3 : l.getD 0 ≤ h.getD len) (w : World) : (Instr.sliceBounds isSlice len cap lo hi mx).run P w = .ok (l.getD 0, h.getD len, m.getD cap) w := by
  unfold Instr.sliceBounds
  rcases hm with ⟨rfl, rfl⟩ | ⟨nm, km, rfl, rfl⟩ <;> rcases hh with ⟨rfl, rfl⟩ | ⟨nh, kh, rfl, rfl⟩ <;> rcases hl with ⟨rfl, rfl⟩ | ⟨nl, kl, rfl, rfl⟩ <;>
    simp only [Option.getD_some, Option.getD_none, Option.isSome_some, Option.isSome_none, Bool.false_eq_true, true_implies, reduceCtorEq, imp_false, not_true] at * <;>
    simp [bound_ok, *]
theorem sliceArr_ok {b o n esz l h m : Nat} {H : Heap} (hv : sliceArr b o n esz l h m H = .val v H') : H' = H ∧ m ≤ n ∧ h ≤ m ∧ l ≤ h ∧ 0 < esz ∧ v = .slc b (if m = l then o else o + l * esz) (h - l) (m - l) true esz := by
  unfold sliceArr at hv
  simp only [ife_iff, ne_eq, reduceCtorEq, not_false_eq_true, Nat.ble_eq, Nat.blt_eq, forceN_eq] at hv
  obtain ⟨h1, h2, h3, h4, h5⟩ := hv
  injection h5 with h5 h6
  refine ⟨h6.symm, h1, h2, h3, h4, ?_⟩
  rw [← h5, ife_eq]; simp only [Nat.beq_eq]; rfl
theorem xSlice_ok (hC : CtxOk C) (hs : SRel X W0 C E H w) {t : Nat} {x : Operand} {lo hi mx : Option Operand} {τ : Tm} {g : Operand → Value} (hx : Opds E τ g (x :: (lo.toList ++ (hi.toList ++ mx.toList)))) (h : xSlice t x lo hi mx C τ H = .val v H') :
    VOk X W0 C E H w (Instr.sliceAt t (g x) (lo.map g) (hi.map g) (mx.map g)) v H' := by
  unfold xSlice at h
  rw [onSome_iff (by simp)] at h
  obtain ⟨a, h1, h⟩ := h
  obtain ⟨l, hA, hl⟩ := evOpt_ok (by simp) h (fun y hy => hx y (by simp at hy ⊢; right; left; exact hy))
  clear h
  obtain ⟨hh, hB, hhi⟩ := evOpt_ok (by simp) hA (fun y hy => hx y (by simp at hy ⊢; right; right; left; exact hy))
  clear hA
  obtain ⟨m, h, hm⟩ := evOpt_ok (by simp) hB (fun y hy => hx y (by simp at hy ⊢; right; right; right; exact hy))
  clear hB
  have cv : ∀ {o : Option Operand} {q : Option Nat}, ((o = none ∧ q = none) ∨ ∃ (x : Operand) (n : Nat) (k : IntKind), o = some x ∧ q = some n ∧ g x = .int k (n : Int)) → OptIs (o.map g) q := fun h => by
    rcases h with ⟨rfl, rfl⟩ | ⟨x, n, k, rfl, rfl, e⟩
    · exact .inl ⟨rfl, rfl⟩
    · exact .inr ⟨n, k, by simp [e], rfl⟩
  replace hl := cv hl
  replace hhi := cv hhi
  replace hm := cv hm
  rw [onSome_iff (by simp)] at h
  obtain ⟨i, h2, h⟩ := h
  obtain ⟨I, hT⟩ := hC.tinf h2
  have ha := hx x (by simp) _ h1
  have hund := hT.run_und w
  simp only [orN_eq] at h
  rw [TypeDesc.onString_eq] at h
  split at h
  · -- a string
    rename_i hd
    rw [AV.onStr_iff (by simp)] at h
    obtain ⟨s, rfl, h⟩ := h
    unfold sliceStr at h
    cases m with
    | some m => simp at h
    | none =>
      simp only [onSome_none, forceN_eq, ife_iff, ne_eq, reduceCtorEq, not_false_eq_true, takeN_iff, Nat.ble_eq, lenL_eq, dropL_eq, orN_eq] at h
      obtain ⟨h3, h4, h5, h6⟩ := h
      injection h6 with h6 h7; subst h6 h7
      simp only [Rel] at ha
      obtain ⟨S, e, hS⟩ := ha
      have hlen : s.length = S.size := by rw [← hS]; show _ = S.data.size; simp
      have hb := bounds_ok (P := C.P) false S.size S.size hl hhi (.inl ⟨rfl, rfl⟩) (by simp) (by simp) (by simpa [hlen] using h3) (by simpa [hlen] using h4) w
      have hmx : mx.map g = none := by rcases hm with ⟨e, _⟩ | ⟨n, k, _, e⟩; exact e; cases e
      refine VOk.same (u := .string (S.extract (l.getD 0) (hh.getD S.size))) hs ?_ ?_
      · rw [e, hmx]
        unfold Instr.sliceAt Instr.slice
        simp [hund, hd, hb]
      · simp only [Rel]
        refine ⟨_, rfl, ?_⟩
        rw [ByteArray.data_extract, Array.toList_extract, List.extract_eq_take_drop, List.map_take, List.map_drop, hS, hlen]
        try rfl
  · rename_i hns
    rw [TypeDesc.onArray_eq] at h
    split at h
    · -- an array's address
      rename_i n el hd
      rw [AV.onPtr_iff (by simp)] at h
      obtain ⟨b, o, rfl, h⟩ := h
      rw [onSome_iff (by simp)] at h
      obtain ⟨ei, h3, h⟩ := h
      obtain ⟨J, hE⟩ := hC.tinf h3
      simp only [Rel] at ha
      obtain ⟨r, ba, en, h9, e⟩ := ha
      have hgo : ∀ q, q = hh.getD n → (m.isSome = true → hh.isSome = true) → sliceArrB b o n ei.size (l.getD 0) q (m.getD n) H = .val v H' → VOk X W0 C E H w (Instr.sliceAt t (g x) (lo.map g) (hi.map g) (mx.map g)) v H' := fun q hq hmh k => by
        subst hq
        unfold sliceArrB at k
        simp only [onSome_iff, Blk.onCells_iff, ife_iff, ne_eq, reduceCtorEq, not_false_eq_true, Nat.blt_eq] at k
        obtain ⟨k0, h10, tt, xx, c, rfl, y, h11, h12, k⟩ := k
        obtain ⟨rfl, k1, k2, k3, k4, rfl⟩ := sliceArr_ok k
        obtain ⟨r', ba', en', h13, D, h14, h15, h16, h17⟩ := hs.read h10
        rw [h9] at h13; injection h13 with h13; injection h13 with e1 h13; injection h13 with e2 e3; subst e1 e2 e3
        obtain ⟨u, hu, _⟩ := h17 _ _ h11
        have hD := (Array.getElem?_eq_some_iff.1 hu).1
        have hb := bounds_ok (P := C.P) false n n hl hhi hm hmh k1 k2 k3 w
        have hpos : 0 < m.getD n * ei.size := Nat.mul_pos h12 k4
        have hmul : l.getD 0 * ei.size + (m.getD n - l.getD 0) * ei.size = m.getD n * ei.size := by rw [← Nat.add_mul]; congr 1; omega
        have hD' : ba + (o + m.getD n * ei.size - 1) < D.size := hD
        refine VOk.same (u := .slice (some ⟨r, ba + (if m.getD n = l.getD 0 then o else o + l.getD 0 * ei.size), none⟩) (hh.getD n - l.getD 0) (m.getD n - l.getD 0)) hs ?_ ?_
        · rw [e]
          unfold Instr.sliceAt
          simp only [Sem.run_bind, hund, Result.andThen_ok, hd, Instr.sureAddr, Sem.run_pure, hb, hE.run_size w]
          by_cases hml : m.getD n = l.getD 0
          · rw [if_pos hml, if_pos hml]
          · rw [if_neg hml, if_neg hml, add_none, Nat.add_assoc]
        · simp only [Rel]
          refine ⟨r, ba, en, _, h9, rfl, by omega, Nat.le_refl _, fun _ => rfl, ?_⟩
          rw [h15]
          split <;> omega
      cases m with
      | none => exact hgo _ rfl (by simp) h
      | some m =>
        simp only [onSome_some] at h
        rw [onSome_iff (by simp)] at h
        obtain ⟨q, rfl, h⟩ := h
        exact hgo _ rfl (by simp) h
    · rename_i hna
      rw [TypeDesc.onSlice_iff (by simp)] at h
      obtain ⟨el, hd, h⟩ := h
      simp only [onSome_iff, ife_iff, ne_eq, reduceCtorEq, not_false_eq_true, Nat.blt_eq] at h
      obtain ⟨ei, h3, h4, h⟩ := h
      obtain ⟨J, hE⟩ := hC.tinf h3
      have hrun : ∀ {a : Option Addr} {len c : Nat}, g x = .slice a len c → (Instr.sliceAt t (g x) (lo.map g) (hi.map g) (mx.map g)) = Instr.sliceAt t (.slice a len c) (lo.map g) (hi.map g) (mx.map g) := fun e => by rw [e]
      have hstep : ∀ {a : Option Addr} {len c : Nat}, g x = .slice a len c → (m.isSome = true → hh.isSome = true) → m.getD c ≤ c → hh.getD len ≤ m.getD c → l.getD 0 ≤ hh.getD len →
          (Instr.sliceAt t (g x) (lo.map g) (hi.map g) (mx.map g)).run C.P w = .ok (.slice (if m.getD c = l.getD 0 then a else a.map (·.add (l.getD 0 * ei.size))) (hh.getD len - l.getD 0) (m.getD c - l.getD 0)) w := fun {a len c} e hmh k1 k2 k3 => by
        have hb := bounds_ok (P := C.P) true len c hl hhi hm hmh k1 k2 k3 w
        rw [e]
        unfold Instr.sliceAt Instr.slice
        simp only [Sem.run_bind, hund, Result.andThen_ok, hd, hb, hE.run_size w, Sem.run_pure]
      rw [AV.onSlc_eq] at h
      split at h
      · rename_i b o len cap ex esz
        rw [ife_iff (by simp), Nat.beq_eq] at h
        obtain ⟨h5, h⟩ := h
        simp only [Rel] at ha
        obtain ⟨r, ba, en, c, h9, e, k1, k2, k3, k4⟩ := ha
        cases m with
        | none =>
          rw [onSome_none] at h
          unfold sliceSlc at h
          simp only [ife_iff, ne_eq, reduceCtorEq, not_false_eq_true, Nat.ble_eq, forceN_eq] at h
          obtain ⟨h6, h7, h8⟩ := h
          have hst := hstep e (by simp) (Nat.le_refl _) (by simp only [Option.getD_none]; omega) h7
          simp only [Option.getD_none] at hst
          have hmul : l.getD 0 * esz + (c - l.getD 0) * esz = c * esz := by rw [← Nat.add_mul]; congr 1; omega
          rw [ife_eq] at h8
          split at h8
          · rename_i hq
            injection h8 with h8 h10; subst h8 h10
            have hadd : (if c = l.getD 0 then some (⟨r, ba + o, none⟩ : Addr) else (some (⟨r, ba + o, none⟩ : Addr)).map (·.add (l.getD 0 * ei.size))) = some ⟨r, ba + (o + l.getD 0 * esz), none⟩ := by
              rw [← h5, ife_eq] at *
              by_cases h0 : l.getD 0 = 0
              · rw [h0]; simp [add_none]
              · rw [if_neg (by simpa [Nat.beq_eq] using h0), Nat.blt_eq] at hq
                rw [if_neg (by omega), Option.map_some, add_none, Nat.add_assoc]
            rw [hadd] at hst
            refine VOk.same hs hst ?_
            simp only [Rel]
            have : Nat.mul (l.getD 0) esz = l.getD 0 * esz := rfl
            exact ⟨r, ba, en, _, h9, rfl, (by rw [show Nat.sub (hh.getD len) (l.getD 0) = hh.getD len - l.getD 0 from rfl]; omega), (by rw [show Nat.sub cap (l.getD 0) = cap - l.getD 0 from rfl]; omega), (fun hx => by rw [k3 hx]; rfl), by rw [show Nat.add o (Nat.mul (l.getD 0) esz) = o + l.getD 0 * esz from rfl]; omega⟩
          · rename_i hq
            have hlc : l.getD 0 = cap ∧ hh.getD len = cap ∧ l.getD 0 ≠ 0 := by
              rw [ife_eq] at hq
              by_cases h0 : l.getD 0 = 0
              · rw [if_pos (by simpa [Nat.beq_eq] using h0)] at hq; simp at hq
              · rw [if_neg (by simpa [Nat.beq_eq] using h0), Nat.blt_eq] at hq; omega
            rw [ife_eq] at h8
            split at h8
            · rename_i hex
              injection h8 with h8 h10; subst h8 h10
              rw [if_pos (by rw [k3 hex]; exact hlc.1.symm), hlc.1, hlc.2.1, k3 hex] at hst
              simp only [Nat.sub_self] at hst
              refine VOk.same hs hst ?_
              simp only [Rel]
              exact ⟨r, ba, en, 0, h9, rfl, by omega, by omega, fun _ => rfl, by omega⟩
            · injection h8 with h8 h10; subst h8 h10
              rw [hlc.2.1, hlc.1, Nat.sub_self] at hst
              by_cases hc : c = cap
              · rw [if_pos hc, hc, Nat.sub_self] at hst
                refine VOk.same hs hst ?_
                simp only [Rel]
                exact ⟨r, ba, en, o, 0, h9, rfl, .inl ⟨rfl, rfl⟩⟩
              · rw [if_neg hc, Option.map_some, add_none, ← h5, Nat.add_assoc] at hst
                refine VOk.same hs hst ?_
                simp only [Rel]
                rw [hlc.1] at hmul
                exact ⟨r, ba, en, o + cap * esz, c - cap, h9, rfl, .inr ⟨by rw [hlc.1]; rfl, by rw [hlc.1, show Nat.add o (Nat.mul cap esz) = o + cap * esz from rfl]; omega⟩⟩
        | some m =>
          rw [onSome_some, onSome_iff (by simp)] at h
          obtain ⟨q, hq, h⟩ := h
          obtain ⟨rfl, k5, k6, k7, k8, rfl⟩ := sliceArr_ok h
          have hst := hstep e (by rw [hq]; simp) (by simp only [Option.getD_some]; omega) (by rw [hq]; simpa using k6) (by rw [hq]; simpa using k7)
          simp only [Option.getD_some, hq] at hst
          have hmul : l.getD 0 * esz + (m - l.getD 0) * esz = m * esz := by rw [← Nat.add_mul]; congr 1; omega
          have hmc : m * esz ≤ c * esz := Nat.mul_le_mul_right _ (by omega)
          have hadd : (if m = l.getD 0 then some (⟨r, ba + o, none⟩ : Addr) else (some (⟨r, ba + o, none⟩ : Addr)).map (·.add (l.getD 0 * ei.size))) = some ⟨r, ba + (if m = l.getD 0 then o else o + l.getD 0 * esz), none⟩ := by
            by_cases hml : m = l.getD 0
            · rw [if_pos hml, if_pos hml]
            · rw [if_neg hml, if_neg hml, Option.map_some, add_none, Nat.add_assoc, h5]
          rw [hadd] at hst
          refine VOk.same hs hst ?_
          simp only [Rel]
          refine ⟨r, ba, en, _, h9, rfl, by omega, Nat.le_refl _, fun _ => rfl, ?_⟩
          split <;> omega
      · rw [AV.onNils_iff (by simp)] at h
        obtain ⟨rfl, h⟩ := h
        simp only [Rel] at ha
        simp only [ife_iff, ne_eq, reduceCtorEq, not_false_eq_true, Nat.beq_eq] at h
        obtain ⟨h5, h6, h7, h8⟩ := h
        have hv : v = .nils ∧ H' = H ∧ (m.isSome = true → hh.isSome = true) := by
          cases m with
          | none => simp only [onSome_none] at h8; injection h8 with h8 h9; exact ⟨h8.symm, h9.symm, by simp⟩
          | some m =>
            rw [onSome_some, onSome_iff (by simp)] at h8
            obtain ⟨q, hq, h8⟩ := h8
            injection h8 with h8 h9; exact ⟨h8.symm, h9.symm, by rw [hq]; simp⟩
        obtain ⟨rfl, rfl, hmh⟩ := hv
        have hst := hstep ha hmh (by omega) (by omega) (by omega)
        rw [h5, h6, h7, if_pos rfl] at hst
        exact VOk.same hs hst (by simp [Rel])
end
end Go.Proofs.YtjebljnifeoiaaaGreat.Vm
