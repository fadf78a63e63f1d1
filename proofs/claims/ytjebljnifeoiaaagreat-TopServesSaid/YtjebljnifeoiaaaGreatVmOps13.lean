/- The machine's operations are the model's: what is appended. No condition but those each theorem names. -/
import Derived.Test.YtjebljnifeoiaaaGreatVmOps12
namespace Go.Proofs.YtjebljnifeoiaaaGreat.Vm
open Go
set_option linter.unusedVariables false
set_option linter.unusedSimpArgs false
section
variable {P : Program} {w : World}
/-- How the model goes on once it knows what is to be appended. -/
structure Appends (P : Program) (w : World) (ts : Array TypeId) (ty : TypeId) (el : TypeId) (size bytes n : Nat) (z : Value) (news : List Value) (x : Value) : Prop where
  fits : ∀ a sLen sCap, sLen + n ≤ sCap → (Builtin.append_ ts ty #[.slice (some a) sLen sCap, x]).run P w = ((storeCells (a.add (sLen * size)) news).run P w).andThen fun _ w' => .ok (.slice (some a) (sLen + n) sCap) w'
  none : n = 0 → (Builtin.append_ ts ty #[.slice none 0 0, x]).run P w = .ok (.slice none 0 0) w
  grow : ∀ base sLen sCap olds, sCap < sLen + n → sLen + n ≤ 1000000 → bytes ≤ 100000 → (Builtin.firstCells size sLen (.slice base sLen sCap)).run P w.drew = .ok olds w.drew →
    (Builtin.append_ ts ty #[.slice base sLen sCap, x]).run P w =
      .ok (.slice (some ⟨w.heap.size, 0, .none⟩) (sLen + n) (grownCap w (sLen + n) sCap el)) (w.drew.alloc (.cells (olds ++ news.toArray ++ Builtin.zeroCells z.cells (grownCap w (sLen + n) sCap el - (sLen + n))) el))
theorem fits48 {need old bytes : Nat} (h : old < need) (hn : need ≤ 1000000) (hb : bytes ≤ 100000) : Builtin.nextslicecap need old * bytes ≤ 281474976710656 :=
  growslice_fits h (by have := Nat.mul_le_mul hn hb; omega)
theorem appends_slice {ts : Array TypeId} {ty t tx el : TypeId} {i : TypeInfo} {z x : Value} {n : Nat} {news : List Value} {xd : TypeDesc} (h0 : ts[0]? = some t) (h1 : ts[1]? = some tx) (ht : P.underlying t = some (.slice el)) (htx : P.underlying tx = some xd) (hxd : ∀ k, xd ≠ .int k)
    (hi : P.info? el = some i) (hz : i.zero = some z) (hl : (Builtin.lenOf x).run P w = .ok n w) (hf : ∀ w' : World, w'.heap = w.heap → (Builtin.firstCells i.size n x).run P w' = .ok news.toArray w') : Appends P w ts ty el i.size i.bytes n z news x := by
  have hdrew : w.drew.heap = w.heap := rfl
  have hm : (match xd with | .int _ => true | _ => false) = false := by cases xd <;> first | rfl | exact absurd rfl (hxd _)
  refine ⟨fun a sLen sCap hfit => ?_, fun hn => ?_, fun base sLen sCap olds hg h6 hb ho => ?_⟩
  · unfold Builtin.append_
    simp [h0, h1, run_underlying ht, run_underlying htx, sizeOf, typeInfo, hi, hl, hm, hfit, hf w rfl]
  · subst hn
    unfold Builtin.append_
    simp [h0, h1, run_underlying ht, run_underlying htx, sizeOf, typeInfo, hi, hl, hm, hf w rfl]
  · have h48 : ¬ (281474976710656 < Builtin.nextslicecap (sLen + n) sCap * i.bytes) := by have := fits48 hg h6 hb; omega
    have hnf : ¬ (sLen + n ≤ sCap) := by omega
    have h63 : ¬ (9223372036854775807 < ((sLen : Int) + (n : Int))) := by omega
    unfold Builtin.append_
    simp [h0, h1, run_underlying ht, run_underlying htx, sizeOf, typeInfo, zeroValue, hi, hz, hl, hm, hnf, h63, h48, hf w.drew hdrew, ho, Question.forced, newRow, grownCap]
theorem appends_zeros {ts : Array TypeId} {ty t tx el : TypeId} {i : TypeInfo} {z : Value} {n : Nat} {k k' : IntKind} (h0 : ts[0]? = some t) (h1 : ts[1]? = some tx) (ht : P.underlying t = some (.slice el)) (htx : P.underlying tx = some (.int k))
    (hi : P.info? el = some i) (hz : i.zero = some z) (hn : n ≤ 100000) (hb : i.bytes ≤ 100000) (hs : 0 < i.size) : Appends P w ts ty el i.size i.bytes n z (if n = 0 then [] else (Builtin.zeroCells z.cells n).toList) (.int k' n) := by
  have hw : IntKind.i64.wrap (n : Int) = n := wrap_le .i64 n (by simp only [kmax]; omega)
  have hnn : ¬ ((n : Int) < 0) := by omega
  have hbb : ¬ (281474976710656 < (n : Int) * (i.bytes : Int)) := by
    have := Nat.mul_le_mul hn hb
    rw [← Int.natCast_mul]; omega
  have hsz : n * i.size = 0 ↔ n = 0 := by
    constructor
    · intro h; rcases Nat.mul_eq_zero.1 h with h | h <;> omega
    · intro h; simp [h]
  have hw0 : IntKind.i64.wrap 0 = 0 := rfl
  refine ⟨fun a sLen sCap hfit => ?_, fun hn => ?_, fun base sLen sCap olds hg h6 hb ho => ?_⟩
  · unfold Builtin.append_
    by_cases h : n = 0
    · subst h
      have hfit : sLen ≤ sCap := hfit
      simp [h0, h1, run_underlying ht, run_underlying htx, sizeOf, typeInfo, zeroValue, hi, hz, asInt, asIntOf, hw0, hfit]
    · simp [h0, h1, run_underlying ht, run_underlying htx, sizeOf, typeInfo, zeroValue, hi, hz, asInt, asIntOf, hw, hnn, hbb, hfit, hsz, h]
  · subst hn
    unfold Builtin.append_
    simp [h0, h1, run_underlying ht, run_underlying htx, sizeOf, typeInfo, hi, asInt, asIntOf, hw0]
  · have h48 : ¬ (281474976710656 < Builtin.nextslicecap (sLen + n) sCap * i.bytes) := by have := fits48 hg h6 hb; omega
    have hnf : ¬ (sLen + n ≤ sCap) := by omega
    have h63 : ¬ (9223372036854775807 < ((sLen : Int) + (n : Int))) := by omega
    unfold Builtin.append_
    by_cases h : n = 0
    · subst h
      have hnf : ¬ (sLen ≤ sCap) := hnf
      have h48 : ¬ (281474976710656 < Builtin.nextslicecap sLen sCap * i.bytes) := h48
      have h63 : ¬ (9223372036854775807 < (sLen : Int)) := by omega
      simp [h0, h1, run_underlying ht, run_underlying htx, sizeOf, typeInfo, zeroValue, hi, hz, asInt, asIntOf, hw0, hnf, h63, h48, ho, Question.forced, newRow, grownCap]
    · simp [h0, h1, run_underlying ht, run_underlying htx, sizeOf, typeInfo, zeroValue, hi, hz, asInt, asIntOf, hw, hnn, hbb, hnf, h63, h48, hsz, h, ho, Question.forced, newRow, grownCap]
end
section
variable {X : Nat → Prop} {W0 : World} {C : Ctx} {E : Env} {H H' : Heap} {w : World} {v : AV}
/-- The row grows: a new block. -/
theorem grow_ok {E0 : Env} {H0 : Heap} (hs : SRel X W0 C E H w) {el esz need len n sCap : Nat} {cs olds news : List _} {z : Value} (hz : z.cells.size = esz) (hlo : olds.length = len * esz) (hln : news.length = n * esz) (hnd : need = len + n)
    (hr : RelL E cs (olds ++ news)) (h : newSlc el need esz cs H = .val v H') :
    ∃ E', Grew E E' H.next H'.next ∧ Rel E' v (.slice (some ⟨w.heap.size, 0, none⟩) need (grownCap w need sCap el)) ∧ SRel X W0 C E' H' (w.drew.alloc (.cells (olds.toArray ++ news.toArray ++ Builtin.zeroCells z.cells (grownCap w need sCap el - need)) el)) ∧ H'.ro = H.ro ∧ H'.lim = H.lim ∧ H.next ≤ H'.next := by
  unfold newSlc at h
  have hge := grownCap_ge w need sCap el
  generalize hcap : grownCap w need sCap el = cap at hge ⊢
  have hrow : ∀ i a, (BT.leaf cs).get i = some a → ∃ u, (olds.toArray ++ news.toArray ++ Builtin.zeroCells z.cells (cap - need))[i]? = some u ∧ Rel E a u := fun i a e => by
    rw [BT.get_leaf] at e
    obtain ⟨u, h1, h2⟩ := hr.get i a e
    refine ⟨u, ?_, h2⟩
    have hi := (List.getElem?_eq_some_iff.1 h1).1
    rw [Array.getElem?_append_left (by simpa using hi)]
    simpa using h1
  obtain ⟨H1, E1, k1, k2, k3, k4, k5, k6, k7⟩ := new_ok hs.drew (by simp) h (us := olds.toArray ++ news.toArray ++ Builtin.zeroCells z.cells (cap - need)) (fun h => by cases h) hrow
  injection k1 with k1 k8; subst k1 k8
  refine ⟨E1, k3, ?_, k2, k6, k7, by omega⟩
  simp only [Rel]
  refine ⟨w.heap.size, 0, _, cap, k4, rfl, hge, hge, (fun h => by cases h), ?_⟩
  have hs1 : (olds.toArray ++ news.toArray ++ Builtin.zeroCells z.cells (cap - need)).size = cap * esz := by
    rw [Array.size_append, Array.size_append, size_zeroCells, hz]
    simp only [List.size_toArray, hlo, hln]
    have h1 : len * esz + n * esz = need * esz := by rw [hnd, Nat.add_mul]
    have h2 : need * esz + (cap - need) * esz = cap * esz := by rw [← Nat.add_mul]; congr 1; omega
    omega
  rw [hs1]; omega
/-- A slice whose capacity is not known: it grows, or it does not; its block gets a new number. -/
theorem appNew_ok (hs : SRel X W0 C E H w) {ts : Array TypeId} {ty el size bytes n need len b o rr ba en c : Nat} {z x : Value} {new old : List AV} {news olds : List Value} (hA : Appends C.P w ts ty el size bytes n z news x)
    (h0 : 0 < size) (hz : z.cells.size = size) (hb : bytes ≤ 100000) (hnd : need = len + n) (h6 : need ≤ 1000000) (hln : news.length = n * size) (hlo : olds.length = len * size) (hrn : RelL E new news) (hro : RelL E old olds)
    (e : E.ρ b = some (rr, ba, en)) (hcap : need ≤ c → ba + o + c * size ≤ en) (hcells : ∀ j u, olds[j]? = some u → w.cell? ⟨rr, ba + o + j, none⟩ = some u)
    (hload : (Builtin.firstCells size len (.slice (some ⟨rr, ba + o, none⟩) len c)).run C.P w.drew = .ok olds.toArray w.drew)
    (h : appNew el size need b new (old ++ new) H = .val v H') : VOk X W0 C E H w (Builtin.append_ ts ty #[.slice (some ⟨rr, ba + o, none⟩) len c, x]) v H' := by
  unfold appNew at h
  simp only [ife_iff, onSome_iff, Blk.onCells_iff, ne_eq, reduceCtorEq, not_false_eq_true, getK_eq, Heap.setB_eq, Nat.beq_eq] at h
  obtain ⟨hone, k, hk, t, ex, cc, rfl, rfl, h⟩ := h
  have hup : SRel X W0 C E (H.put b none) w := hs.upd hk e (Turned.refl w rr) (fun k' e => by cases e) (.inr (fun es e => by cases e))
  obtain ⟨r', ba', en', e', hX, D, g1, g2, g3, g4⟩ := hs.own b _ hk
  rw [e] at e'; injection e' with e'; injection e' with e1 e'; injection e' with e2 e3; subst e1 e2 e3
  by_cases hfit : need ≤ c
  · -- in its place
    have hin : ba + o + c * size ≤ D.size := by have := hcap hfit; omega
    have hmul : need * size ≤ c * size := Nat.mul_le_mul_right _ hfit
    have hsum : len * size + n * size = need * size := by rw [hnd, Nat.add_mul]
    have hrun := run_storeCells_cells (P := C.P) rr (ba + o + len * size) news 0 w (fun j hj => by
      rw [cell_of_row w rr _ D t (0, 0) g1, Array.getElem?_eq_getElem (by omega)]; rfl) (fun j _ => frozen_of_row w rr _ D t g1) (allOne_ok hone hrn hs.fk.one)
    rw [Nat.add_zero] at hrun
    have hst : SRel X W0 C E (H.put b none) (w.setCells rr (ba + o + len * size) news) := hs.upd hk e (Turned.setCells rr news _ w) (fun k' e => by cases e) (.inr (fun es e => by cases e))
    unfold newSlc at h
    rw [Heap.new_iff (by simp)] at h
    obtain ⟨hl, h⟩ := h
    injection h with h7 h8; subst h7 h8
    have hbk : setAll D (ba + o + len * size) news = setAll D (ba + o + len * size) news := rfl
    have hpush := hst.push (H := H.put b none) hl (r := rr) (ba := ba + o) (en := D.size) hX (fun j k' r' ba' en' g e' => by
        have hg : (H.put b none).tr.get j = if j = b then none else H.tr.get j := Heap.put_get (hs.ids b _ e) none j
        rw [hg] at g
        split at g
        · cases g
        · rename_i hj
          exact hs.inj j b k' _ _ _ _ _ _ _ (by rw [Heap.get_eq, g]) (by rw [Heap.get_eq, hk]) e' e hj) (fun it y hq hy => by
        have hi := hs.it it hq
        obtain ⟨b', m, p⟩ := it
        cases p with
        | some p =>
          obtain ⟨r1, rm, since, seen, s, M, clk, e0, i1, i2, _⟩ := hi
          have hy : E.ρ b' = some y := hy
          rw [i1] at hy; injection hy with hy; subst hy
          exact fun e3 => hX (e3 ▸ i2)
        | none =>
          obtain ⟨r1, rm, ba1, en1, es, M, since, i1, i2, i3, _⟩ := hi
          have hy : E.ρ b' = some y := hy
          rw [i1] at hy; injection hy with hy; subst hy
          exact fun e3 => i3 b _ rr ba D.size hk (g2 ▸ e) e3.symm) (k := .cells t false (.leaf (old ++ new)))
      ⟨setAll D (ba + o + len * size) news, setCells_block t rr news _ w D g1, by rw [setAll_size], fun h => (by cases h), fun i a ei => by
        rw [BT.get_leaf] at ei
        have hfr : E.ρ (H.put b none).next = none := hst.fresh _ (Nat.le_refl _) hl
        obtain ⟨u, h1, h2⟩ := (hro.app hrn).get i a ei
        refine ⟨u, ?_, h2.ext (Env.add_ext _ hfr)⟩
        rw [setAll_get news _ D _ (by omega)]
        by_cases hi : i < olds.length
        · rw [if_neg (by omega)]
          rw [List.getElem?_append_left hi] at h1
          have := hcells i u h1
          rwa [cell_of_row w rr _ D t (0, 0) g1] at this
        · rw [List.getElem?_append_right (by omega)] at h1
          have hil := (List.getElem?_eq_some_iff.1 h1).1
          rw [if_pos (by omega), ← h1]
          congr 1; omega⟩
    refine ⟨.slice (some ⟨rr, ba + o, none⟩) (len + n) c, _, _, ?_, hpush.2, ?_, hpush.1, rfl, rfl, by show _ ≤ H.next + 1; omega⟩
    · rw [hA.fits _ _ _ (by omega), add_none]
      show ((storeCells ⟨rr, ba + o + len * size, none⟩ news).run C.P w).andThen _ = _
      rw [hrun]; rfl
    · simp only [Rel]
      refine ⟨rr, ba + o, D.size, c, by show (if H.next = H.next then _ else _) = _; rw [if_pos rfl], by rw [hnd]; rfl, hfit, hfit, (fun h => by cases h), by omega⟩
  · obtain ⟨E1, k1, k2, k3, k4, k5, k6⟩ := grow_ok (E0 := E) (H0 := H) hup (z := z) (sCap := c) hz hlo hln hnd (hro.app hrn) h
    refine ⟨_, _, E1, ?_, k1, k2, k3, k4, k5, k6⟩
    rw [hA.grow _ _ _ _ (by omega) (by omega) hb hload, hnd]
theorem appGo_ok (hs : SRel X W0 C E H w) {ts : Array TypeId} {ty el size bytes n : Nat} {z x S : Value} {s : AV} {new : List AV} {news : List Value} (hA : Appends C.P w ts ty el size bytes n z news x)
    (h0 : 0 < size) (hz : z.cells.size = size) (hb : bytes ≤ 100000) (hn : n ≤ 1000000) (hln : news.length = n * size) (hrn : RelL E new news) (hS : Rel E s S) (h : appGo el size n new H s = .val v H') :
    VOk X W0 C E H w (Builtin.append_ ts ty #[S, x]) v H' := by
  unfold appGo at h
  rw [AV.onSlc_eq] at h
  split at h
  · rename_i b o len cap ex esz
    rw [ife_iff (by simp), Nat.beq_eq] at h
    obtain ⟨rfl, h⟩ := h
    unfold appSlc at h
    simp only [forceN_eq, ife_iff, ne_eq, reduceCtorEq, not_false_eq_true, Nat.ble_eq] at h
    obtain ⟨h6, h⟩ := h
    have h6 : len + n ≤ 1000000 := h6
    have hS' := hS
    simp only [Rel] at hS
    obtain ⟨rr, ba, en, c, e, rfl, k1, k2, k3, k4⟩ := hS
    rw [ife_eq] at h
    split at h
    · rename_i hfit
      rw [Nat.ble_eq] at hfit
      have hfit : len + n ≤ cap := hfit
      rw [ife_eq] at h
      split at h
      · rename_i hn0
        rw [Nat.beq_eq] at hn0
        subst hn0
        injection h with h7 h8; subst h7 h8
        have hnil : news = [] := List.length_eq_zero_iff.1 (by omega)
        subst hnil
        refine VOk.same hs ?_ hS'
        rw [hA.fits _ _ _ (by omega)]
        rfl
      · simp only [ife_iff, ne_eq, reduceCtorEq, not_false_eq_true] at h
        obtain ⟨hone, h⟩ := h
        obtain ⟨H1, rr', ba', en', g1, g2, g3, g4, g5, g6, g7, g8⟩ := storeB_ok hs (by simp) h hrn
        injection g2 with g2 g9; subst g2 g9
        rw [e] at g1; injection g1 with g1; injection g1 with e1 g1; injection g1 with e2 e3; subst e1 e2 e3
        have hadr : ba + (Nat.add o (Nat.mul len esz)) = ba + o + len * esz := by rw [Nat.add_assoc]; rfl
        rw [hadr] at g3 g7 g8
        have hrun := run_storeCells_cells (P := C.P) rr (ba + o + len * esz) news 0 w (by simpa using g7) (by simpa using g8) (allOne_ok hone hrn hs.fk.one)
        rw [Nat.add_zero] at hrun
        refine ⟨.slice (some ⟨rr, ba + o, none⟩) (len + n) c, _, E, ?_, by rw [g4]; exact Grew.refl _ _ _, ?_, g3, g5, g6, by omega⟩
        · rw [hA.fits _ _ _ (by omega), add_none]
          show ((storeCells ⟨rr, ba + o + len * esz, none⟩ news).run C.P w).andThen _ = _
          rw [hrun]; rfl
        · simp only [Rel]
          exact ⟨rr, ba, en, c, e, rfl, by show len + n ≤ c; omega, k2, k3, k4⟩
    · rename_i hfit
      rw [Nat.ble_eq] at hfit
      have hfit : ¬ len + n ≤ cap := hfit
      obtain ⟨old, olds, g1, g2, g3, g4, g5⟩ := readB_ok hs (by simp) h e
      rw [appK_eq] at g1
      have hload : (Builtin.firstCells esz len (.slice (some ⟨rr, ba + o, none⟩) len c)).run C.P w.drew = .ok olds.toArray w.drew := by
        simp only [Builtin.firstCells]
        exact g5 w.drew rfl
      have hlo : olds.length = len * esz := by rw [g3.len, g2]; rfl
      rw [ife_eq] at g1
      split at g1
      · rename_i hex
        have hc : c = cap := k3 hex
        obtain ⟨E1, k1', k2', k3', k4', k5', k6'⟩ := grow_ok (E0 := E) (H0 := H) hs (z := z) (sCap := c) hz hlo hln (show len + n = len + n from rfl) (g3.app hrn) g1
        refine ⟨_, _, E1, ?_, k1', k2', k3', k4', k5', k6'⟩
        rw [hA.grow _ _ _ _ (by omega) h6 hb hload]
      · exact appNew_ok hs hA h0 hz hb rfl h6 hln hlo hrn g3 e (fun _ => k4) g4 hload g1
  · rw [AV.onNils_eq] at h
    split at h
    · simp only [Rel] at hS
      subst hS
      rw [ife_eq] at h
      split at h
      · rename_i hn0
        rw [Nat.beq_eq] at hn0
        injection h with h7 h8; subst h7 h8
        exact VOk.same hs (hA.none hn0) (by simp [Rel])
      · rename_i hn0
        rw [Nat.beq_eq] at hn0
        obtain ⟨E1, k1', k2', k3', k4', k5', k6'⟩ := grow_ok (E0 := E) (H0 := H) hs (z := z) (sCap := 0) (olds := []) (len := 0) hz (by simp) hln (by omega) (by simpa using hrn) h
        refine ⟨_, _, E1, ?_, k1', k2', k3', k4', k5', k6'⟩
        rw [hA.grow none 0 0 #[] (by omega) (by omega) hb (by simp [Builtin.firstCells])]
        simp
    · rw [AV.onEtl_iff (by simp)] at h
      obtain ⟨b, o1, o2, zz, rfl, h⟩ := h
      have hS' := hS
      simp only [Rel] at hS
      obtain ⟨rr, ba, en, o, c, e, rfl, hoc⟩ := hS
      rw [ife_eq] at h
      split at h
      · rename_i hn0
        rw [Nat.beq_eq] at hn0
        subst hn0
        injection h with h7 h8; subst h7 h8
        have hnil : news = [] := List.length_eq_zero_iff.1 (by omega)
        subst hnil
        refine VOk.same hs ?_ hS'
        rw [hA.fits _ _ _ (by omega)]
        rfl
      · rename_i hn0
        rw [Nat.beq_eq] at hn0
        rw [ife_iff (by simp), Nat.beq_eq] at h
        obtain ⟨rfl, h⟩ := h
        refine appNew_ok hs hA h0 hz hb (len := 0) (old := []) (olds := []) (by omega) hn hln (by simp) hrn RelL.nil e (fun hc => ?_) (fun j u e => by simp at e) (by simp only [Builtin.firstCells, Nat.zero_mul]; rfl) h
        rcases hoc with ⟨_, h⟩ | ⟨rfl, h⟩
        · omega
        · exact h
theorem repL_zero {z : List AV} {u : Value} (hcl : RelL E z u.cells.toList) (n : Nat) : RelL E (repL n z) (Builtin.zeroCells u.cells n).toList := by
  have hlen := hcl.len
  simp only [Array.length_toList] at hlen
  refine RelL.of (by rw [repL_len]; simp [Builtin.zeroCells, hlen]) (fun i a q e1 e2 => ?_)
  have hi : i < n * z.length := by rw [← repL_len]; exact (List.getElem?_eq_some_iff.1 e1).1
  rw [repL_get z n i hi] at e1
  obtain ⟨b, hb, hr⟩ := hcl.get _ a e1
  have : q = b := by
    simp only [Builtin.zeroCells, Array.toList_map, Array.toList_range, List.getElem?_map, List.getElem?_range (show i < n * u.cells.size by rw [hlen]; exact hi), Option.map_some, Option.some.injEq] at e2
    rw [← e2, getElem!_def, hlen]
    have : u.cells[i % z.length]? = some b := by simpa using hb
    rw [this]
  rw [this]; exact hr
theorem xAppend_ok (hC : CtxOk C) (hs : SRel X W0 C E H w) {st xt ty : Nat} {ts : Array TypeId} {s x : AV} {S q : Value} (hS : Rel E s S) (hq : Rel E x q) (ht : ts[0]? = some st) (ht1 : ts[1]? = some xt) (h : xAppend st xt s x C H = .val v H') :
    VOk X W0 C E H w (Builtin.append_ ts ty #[S, q]) v H' := by
  unfold xAppend at h
  simp only [onSome_iff, TypeDesc.onSlice_iff, ife_iff, ne_eq, reduceCtorEq, not_false_eq_true, lenAs_eq, Nat.beq_eq, Nat.blt_eq, Nat.ble_eq] at h
  obtain ⟨i, h1, el, hd, ei, h2, xi, h3, z, h4, hby, hsz, hzl, h⟩ := h
  obtain ⟨I, hT⟩ := hC.tinf h1
  obtain ⟨J, hE⟩ := hC.tinf h2
  obtain ⟨K, hXT⟩ := hC.tinf h3
  obtain ⟨u, hz, hcl, _, hJz⟩ := zero_ok (E := E) hE h4
  have hus : u.cells.size = J.size := by
    have := hcl.len
    simp only [Array.length_toList] at this
    rw [← hE.size]; omega
  have hui : C.P.underlying st = some (.slice el) := by rw [hT.und, hd]
  have hbJ : J.bytes ≤ 100000 := by rw [← hE.bytes]; exact hby
  rw [hE.size] at h hsz
  rw [AV.onInt_eq] at h
  split at h
  · rename_i k e
    simp only [TypeDesc.onInt_iff, onNat_iff, ife_iff, ne_eq, reduceCtorEq, not_false_eq_true, Nat.ble_eq] at h
    obtain ⟨kx, hxd, n, rfl, hn, h⟩ := h
    simp only [Rel, SI.den] at hq
    subst hq
    have hA := appends_zeros (w := w) (ty := ty) (k' := k) ht ht1 hui (by rw [hXT.und, hxd]) hE.info hJz hn hbJ hsz
    refine appGo_ok hs hA hsz hus hbJ (by omega) ?_ ?_ hS h
    · by_cases h0 : n = 0
      · subst h0; simp
      · rw [if_neg h0]; simp [Builtin.zeroCells, hus]
    · by_cases h0 : n = 0
      · subst h0; rw [if_pos rfl]; exact RelL.nil
      · rw [if_neg h0]; exact repL_zero hcl n
  · rw [TypeDesc.onInt_eq] at h
    split at h
    · cases h
    · rename_i hni
      simp only [onSome_iff, ife_iff, ne_eq, reduceCtorEq, not_false_eq_true, Nat.ble_eq] at h
      obtain ⟨n, h5, hn, h⟩ := h
      obtain ⟨hln, _⟩ := lenA_ok (C := C) h5 hq w
      obtain ⟨vs, us, h6, h7, h8, h9⟩ := readsA_ok hs (by simp) h h5 (Nat.le_refl _) hq
      have hA := appends_slice (P := C.P) (ty := ty) ht ht1 hui hXT.und (fun k e => hni k e) hE.info hJz hln h9
      exact appGo_ok hs hA hsz hus hbJ hn (by rw [h8.len, h7]) h8 hS h6
end
end Go.Proofs.YtjebljnifeoiaaaGreat.Vm
