/- The machine's operations are the model's: capacities, what is cleared, bytes as a string. No condition but those each theorem names. -/
import Derived.Test.YtjebljnifeoiaaaGreatVmOps13
import Derived.Lib.UnsafeStr
namespace Go.Proofs.YtjebljnifeoiaaaGreat.Vm
open Go
set_option linter.unusedVariables false
set_option linter.unusedSimpArgs false
section
variable {X : Nat → Prop} {W0 : World} {C : Ctx} {E : Env} {H H' : Heap} {w : World} {v : AV}
theorem xCap_ok (hC : CtxOk C) (hs : SRel X W0 C E H w) {t ty : Nat} {ts : Array TypeId} {x : AV} {u : Value} (hx : Rel E x u) (ht : ts[0]? = some t) (h : xCap t x C H = .val v H') :
    VOk X W0 C E H w (Builtin.cap_ ts ty #[u]) v H' := by
  unfold xCap at h
  rw [onSome_iff (by simp)] at h
  obtain ⟨i, h1, h⟩ := h
  obtain ⟨I, hT⟩ := hC.tinf h1
  have hund := hT.run_und w
  rw [TypeDesc.onArray_eq] at h
  split at h
  · rename_i n e hd
    rw [hd] at hund
    exact retN_ok hs h (by simp [Builtin.cap_, ht, hund])
  · rw [TypeDesc.onSlice_iff (by simp)] at h
    obtain ⟨el, hd, h⟩ := h
    rw [hd] at hund
    rw [AV.onSlc_eq] at h
    split at h
    · rw [ife_iff (by simp)] at h
      obtain ⟨hex, h⟩ := h
      simp only [Rel] at hx
      obtain ⟨_, _, _, c, _, rfl, _, _, h3, _⟩ := hx
      rw [← h3 hex] at h
      exact retN_ok hs h (by simp [Builtin.cap_, ht, hund])
    · rw [AV.onNils_iff (by simp)] at h
      obtain ⟨rfl, h⟩ := h
      simp only [Rel] at hx
      subst hx
      exact retN_ok hs h (by simp [Builtin.cap_, ht, hund])
theorem allOne_app : ∀ {a b : List AV}, allOne a = true → allOne b = true → allOne (a ++ b) = true
  | [], b, _, h => h
  | x :: a, b, h1, h2 => by
    have h1' : ife (oneCell x) (allOne a) false = true := h1
    rw [ife_iff (by simp)] at h1'
    show ife (oneCell x) (allOne (a ++ b)) false = true
    rw [h1'.1]
    exact allOne_app h1'.2 h2
theorem allOne_rep {z : List AV} (h : allOne z = true) : ∀ n, allOne (repL n z) = true
  | 0 => rfl
  | n + 1 => by rw [repL_succ]; exact allOne_app h (allOne_rep h n)
theorem xClear_ok (hC : CtxOk C) (hs : SRel X W0 C E H w) {t ty : Nat} {ts : Array TypeId} {x : AV} {u : Value} (hx : Rel E x u) (ht : ts[0]? = some t) (h : xClear t x C H = .val v H') :
    VOk X W0 C E H w (Builtin.clear_ ts ty #[u]) v H' := by
  unfold xClear at h
  rw [onSome_iff (by simp)] at h
  obtain ⟨i, h1, h⟩ := h
  obtain ⟨I, hT⟩ := hC.tinf h1
  have hund := hT.run_und w
  rw [TypeDesc.onSlice_eq] at h
  split at h
  · rename_i el hd
    rw [hd] at hund
    rw [AV.onSlc_eq] at h
    split at h
    · rename_i b o n lo ex esz
      simp only [Rel] at hx
      obtain ⟨rr, ba, en, c, e, rfl, _⟩ := hx
      unfold clearSlc at h
      rw [ife_eq] at h
      split at h
      · rename_i h0
        rw [Nat.beq_eq] at h0
        subst h0
        injection h with h2 h3; subst h2 h3
        exact VOk.same (u := .tuple #[]) hs (by simp [Builtin.clear_, ht, hund]) undef_rel
      · rename_i h0
        rw [Nat.beq_eq] at h0
        simp only [onSome_iff, ife_iff, ne_eq, reduceCtorEq, not_false_eq_true, lenAs_eq, Nat.beq_eq, Nat.ble_eq] at h
        obtain ⟨ei, h2, z, h3, rfl, h5, h6, h⟩ := h
        obtain ⟨J, hE⟩ := hC.tinf h2
        obtain ⟨zu, hz, hcl, hone, hJz⟩ := zero_ok (E := E) hE h3
        obtain ⟨H1, rr', ba', en', g1, g2, g3, g4, g5, g6, g7, g8⟩ := storeB_ok hs (by simp) h (repL_zero hcl n)
        injection g2 with g2 g9; subst g2 g9
        rw [e] at g1; injection g1 with g1; injection g1 with e1 g1; injection g1 with e2 e3; subst e1 e2 e3
        have hrun := run_storeCells_cells (P := C.P) rr (ba + o) (Builtin.zeroCells zu.cells n).toList 0 w (by simpa using g7) (by simpa using g8) (allOne_ok (allOne_rep hone n) (repL_zero hcl n) hs.fk.one)
        rw [Nat.add_zero] at hrun
        refine ⟨.tuple #[], _, E, ?_, by rw [g4]; exact Grew.refl _ _ _, undef_rel, g3, g5, g6, by omega⟩
        obtain ⟨m, rfl⟩ : ∃ m, n = m + 1 := ⟨n - 1, by omega⟩
        unfold Builtin.clear_
        simp only [ht, List.getElem?_toArray, List.getElem?_cons_zero, Sem.run_bind, hund, Result.andThen_ok, hz w, hrun, Sem.run_pure]
    · rw [AV.onNils_eq] at h
      split at h
      · injection h with h2 h3; subst h2 h3
        simp only [Rel] at hx
        subst hx
        exact VOk.same (u := .tuple #[]) hs (by simp [Builtin.clear_, ht, hund]) undef_rel
      · rw [AV.onEtl_iff (by simp)] at h
        obtain ⟨_, _, _, _, rfl, h⟩ := h
        injection h with h2 h3; subst h2 h3
        simp only [Rel] at hx
        obtain ⟨_, _, _, _, c, _, rfl, _⟩ := hx
        exact VOk.same (u := .tuple #[]) hs (by simp [Builtin.clear_, ht, hund]) undef_rel
  · simp only [TypeDesc.onMap_iff, AV.onMap_iff, noIt_iff, onSome_iff, Blk.onMap_iff, ne_eq, reduceCtorEq, not_false_eq_true, getK_eq] at h
    obtain ⟨kt, et, hd, b, rfl, hit, k, h2, es, rfl, h⟩ := h
    rw [Heap.setB_eq] at h
    injection h with h3 h4; subst h3 h4
    rw [hd] at hund
    simp only [Rel] at hx
    obtain ⟨rr, ba, en, e, rfl⟩ := hx
    obtain ⟨r', ba', en', e', hX, M, clk, g1, g2, g3, g4⟩ := hs.own b _ h2
    rw [e] at e'; injection e' with e'; injection e' with e1 e'; injection e' with e2 e3; subst e1 e2 e3
    have hg : (getObj rr).run C.P w = .ok (.map M clk) w := by simp [getObj, Sem.run, g1]
    have hset : ∀ o, (setObj rr o).run C.P w = .ok () { w with heap := w.heap.setIfInBounds rr o } := fun o => by simp [setObj, Sem.run, g1]
    refine ⟨.tuple #[], _, E, ?_, Grew.refl _ _ _, undef_rel, mapSet_ok hs h2 e hit (M' := #[]) (clk' := clk) ⟨rfl, fun i p e h => by simp at h⟩ (fun e h => by simp at h) (by simp), rfl, rfl, Nat.le_refl _⟩
    unfold Builtin.clear_
    simp only [ht, List.getElem?_toArray, List.getElem?_cons_zero, Sem.run_bind, hund, Result.andThen_ok, hg, hset, Sem.run_pure]
theorem xSliceData_ok (hs : SRel X W0 C E H w) {ty : Nat} {ts : Array TypeId} {x : AV} {u : Value} (hx : Rel E x u) (h : xSliceData x H = .val v H') : VOk X W0 C E H w (Builtin.unsafeSliceData_ ts ty #[u]) v H' := by
  unfold xSliceData at h
  rw [AV.onSlc_eq] at h
  split at h
  · rw [ife_iff (by simp), Nat.blt_eq] at h
    obtain ⟨h0, h⟩ := h
    injection h with h2 h3; subst h2 h3
    simp only [Rel] at hx
    obtain ⟨rr, ba, en, c, e, rfl, h4, _⟩ := hx
    exact VOk.same hs (Lib.run_unsafeSliceData_row w ts ty _ _ _ (by omega)) (by simp only [Rel]; exact ⟨rr, ba, en, e, rfl⟩)
  · rw [AV.onNils_iff (by simp)] at h
    obtain ⟨rfl, h⟩ := h
    injection h with h2 h3; subst h2 h3
    simp only [Rel] at hx
    subst hx
    exact VOk.same hs (Lib.run_unsafeSliceData_nil w ts ty _ _) (by simp [Rel])
theorem bytesA_ok : ∀ {cs : List AV} {l : List Nat} {us : List Value}, bytesA cs = some l → RelL E cs us → ∃ bs : List UInt8, us = bs.map (fun b => Value.int .u8 (b.toNat : Int)) ∧ bs.map UInt8.toNat = l
  | [], l, us, h, hr => by
    have h' : some [] = some l := h
    injection h' with h'; subst h'
    rw [RelL.nil_iff] at hr
    exact ⟨[], by simp [hr], rfl⟩
  | v :: cs, l, us, h, hr => by
    have h' : (v.onInt none fun k e => ife (beqK k .u8) (onNat e none fun n => ife (Nat.blt n 256) (onSome (bytesA cs) none fun m => some (n :: m)) none) none) = some l := h
    simp only [AV.onInt_iff, ife_iff, onNat_iff, onSome_iff, ne_eq, reduceCtorEq, not_false_eq_true, Nat.blt_eq] at h'
    obtain ⟨k, e, rfl, hk, n, rfl, hn, m, hm, h'⟩ := h'
    injection h' with h'; subst h'
    obtain rfl := beqK_eq hk
    rw [RelL.cons_iff] at hr
    obtain ⟨u, us', rfl, h1, h2⟩ := hr
    simp only [Rel, SI.den] at h1
    obtain ⟨bs, h3, h4⟩ := bytesA_ok hm h2
    have hb : (UInt8.ofNat n).toNat = n := by simp [UInt8.toNat_ofNat']; omega
    exact ⟨UInt8.ofNat n :: bs, by simp only [List.map_cons, hb, h1, h3]; rfl, by simp only [List.map_cons, hb, h4]⟩
theorem liesAt_row {P : Program} {e : TypeId} (hc : P.cellsOf e = 1) (count off n : Nat) (hn : off + n ≤ count) : liesAt P P.depth e count off e n = true := by
  have hd : P.depth = (2 * (P.types.size + Made.depth) + 1) + 1 := rfl
  rw [hd]
  simp only [liesAt, Bool.or_eq_true]
  left
  rw [hd]
  simp [rowAt, hc, hn, sameLayout, Nat.mod_one]
theorem Turned.freeze (w : World) (r o n : Nat) : Turned w (w.freeze ⟨r, o, none⟩ n) r := by
  unfold World.freeze
  split
  · exact Turned.refl w r
  · exact ⟨by simp, fun i hi => by simp only [Array.getElem?_modify]; rw [if_neg (Ne.symm hi)], rfl, rfl, rfl⟩
theorem xUString_ok (hC : CtxOk C) (hs : SRel X W0 C E H w) {pt ty : Nat} {ts : Array TypeId} {p x : AV} {u q : Value} (hp : Rel E p u) (hx : Rel E x q) (ht : ts[0]? = some pt) (h : xUString pt p x C H = .val v H') :
    VOk X W0 C E H w (Builtin.unsafeString_ ts ty #[u, q]) v H' := by
  unfold xUString at h
  simp only [onSome_iff, TypeDesc.onPointer_iff, AV.onInt_iff, onNat_iff, AV.onPtr_iff, ife_iff, Blk.onCells_iff, ne_eq, reduceCtorEq, not_false_eq_true, getK_eq, Nat.beq_eq, Nat.blt_eq, Nat.ble_eq] at h
  obtain ⟨i, h1, el, hd, k, e, rfl, n, rfl, ei, h2, b, o, rfl, rfl, kb, h3, t, ex, c, rfl, rfl, h4, h5, h6, h⟩ := h
  obtain ⟨I, hT⟩ := hC.tinf h1
  obtain ⟨J, hE⟩ := hC.tinf h2
  obtain ⟨cs, h7, h8, h9⟩ := c.ext_ok (by simp) h
  rw [onSome_iff (by simp)] at h9
  obtain ⟨l, h10, h11⟩ := h9
  rw [Heap.setB_eq] at h11
  injection h11 with h12 h13; subst h12 h13
  simp only [Rel, SI.den] at hp hx
  obtain ⟨rr, ba, en, e, rfl⟩ := hp
  subst hx
  obtain ⟨r', ba', en', e', hX, D, g1, g2, g3, g4⟩ := hs.own b _ h3
  rw [e] at e'; injection e' with e'; injection e' with e1 e'; injection e' with e2 e3; subst e1 e2 e3
  obtain ⟨us, h14, h15⟩ := range_of g4 h7 h8
  obtain ⟨bs, h16, h17⟩ := bytesA_ok h10 h14
  have hbl : bs.length = n := by rw [← h7, ← h14.len, h16]; simp
  have hcell : ∀ j y, bs[j]? = some y → w.cell? ((⟨rr, ba, none⟩ : Addr).add j) = some (.int .u8 y.toNat) := fun j y hy => by
    have hu : us[j]? = some (.int .u8 (y.toNat : Int)) := by rw [h16, List.getElem?_map, hy]; rfl
    rw [add_none, cell_of_row w rr _ D t (0, 0) g1]
    rw [h15] at hu
    simp only [Array.getElem?_toList, Array.getElem?_extract] at hu
    split at hu
    · simpa using hu
    · cases hu
  have hin : ba + n ≤ D.size := by
    have := h14.len
    rw [h15, h7] at this
    simp only [Array.length_toList, Array.size_extract] at this
    omega
  have hcz : C.P.cellsOf t = 1 := by
    have h18 := hE.run_size w
    rw [run_sizeOf w hE.info] at h18
    injection h18 with h18
    omega
  have hlies := liesAt_row (P := C.P) hcz (D.size / 1) ba n (by simpa using hin)
  have hlb := Lib.run_loadBytes (P := C.P) w bs ⟨rr, ba, none⟩ .empty hcell
  rw [hbl] at hlb
  have hup : SRel X W0 C E (H.put b none) (w.freeze ⟨rr, ba, none⟩ n) := hs.upd h3 e (Turned.freeze w rr ba n) (fun k' e => by cases e) (.inr (fun es e => by cases e))
  refine ⟨.string ⟨bs.toArray⟩, _, E, ?_, Grew.refl _ _ _, by simp only [Rel]; exact ⟨_, rfl, by simpa using h17⟩, hup, rfl, rfl, Nat.le_refl _⟩
  have hmax : IntKind.i64.max = 9223372036854775807 := rfl
  have hneg : ¬ (n : Int) < 0 := by omega
  have h63 : ¬ (9223372036854775807 : Int) < (n : Int) := by omega
  have hn0 : ¬ n = 0 := by omega
  simp only [Nat.add_zero]
  refine (show (Builtin.unsafeString_ ts ty #[.pointer (some ⟨rr, ba, none⟩), .int k (n : Int)]).run C.P w = _ from Sem.run_bind _ _ (asInt (.int k (n : Int))) _).trans ?_
  have hund := hT.run_und w
  rw [hd] at hund
  have hsh : w.shape? rr = some (t, D.size) := by simp [World.shape?, g1]
  simp [asInt, asIntOf, hmax, hneg, h63, hn0, ht, variablesAt, hsh, elemOf, hund, hcz]
  simp only [Nat.div_one] at hlies
  simp [hlies, hlb]
end
end Go.Proofs.YtjebljnifeoiaaaGreat.Vm
