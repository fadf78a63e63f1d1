/- TopServes over the machine: the law. No condition. -/
import Derived.Test.YtjebljnifeoiaaaGreatTopW
import Derived.Test.YtjebljnifeoiaaaGreatTopSva
import Derived.Test.YtjebljnifeoiaaaGreatTopSvb
import Derived.Test.YtjebljnifeoiaaaGreatTopSvc
import Derived.Test.YtjebljnifeoiaaaGreatTopSvR
import Derived.Tactics
import Derived.Tactics2
namespace Go.Proofs.YtjebljnifeoiaaaGreat.Vm.Top
open Go Go.Proofs.YtjebljnifeoiaaaGreat.Vm Go.Proofs Go.RowKit
set_option maxRecDepth 1000000
set_option linter.unusedVariables false
set_option linter.unusedSimpArgs false
namespace Sv
/-! ### Plain -/
theorem sq (m : Nat) : (m + 1) * (m + 1 + 1) = m * (m + 1) + 2 * (m + 1) := by
  rw [Nat.mul_comm, show m + 1 + 1 = m + 2 by omega, Nat.add_mul]
theorem tri_le {n : Nat} (h : n ≤ 700) : n * (n + 1) ≤ 490700 := Nat.le_trans (Nat.mul_le_mul h (Nat.add_le_add_right h 1)) (by decide)
theorem wrapU {x : Int} (h0 : 0 ≤ x) (h : x < 18446744073709551616) : IntKind.u64.wrap x = x := by
  have hb : ((2 : Int) ^ IntKind.u64.bits) = 18446744073709551616 := by decide
  simp only [IntKind.wrap, IntKind.signed, Bool.false_and, Bool.false_eq_true, if_false, hb]
  exact Int.emod_eq_of_lt h0 h
structure Rg where
  a1 : Int
  a3 : Int
  a6 : Int
  b1 : Int
  b3 : Int
  b6 : Int
def Rg.l (g : Rg) : List Int := [g.a1, g.a3, g.a6, g.b1, g.b3, g.b6]
def vals (i j : Int) (g : Rg) : List Int := i :: j :: g.l
def sg (i j : Int) (g : Rg) (k : Nat) : Int := ((vals i j g)[k]?).getD 0
noncomputable def Ev (i j : Int) (g : Rg) (fs : Nat → FS) : Env := Env.of (sg i j g) (fun _ => false) fs
theorem names (i j : Int) (g : Rg) : Names (vals i j g) [] (sg i j g) fun _ => false :=
  ⟨fun k v h => by unfold sg; rw [h]; rfl, fun k v h => by simp at h⟩
/-- The sum told of. -/
def Sum (m : Nat) (g : Rg) : Prop := g.a6 = ((m * (m + 1) : Nat) : Int)
def Inv (r : Rw) (n : Nat) (g : Rg) : Prop :=
  g.a3 = (n : Int) ∧ (∃ m : Nat, m + r.c1 = n ∧ g.a1 = ((r.k1 * m : Nat) : Int)) ∧ (∃ m : Nat, m + r.c2 = n ∧ g.b1 = ((r.k2 * m : Nat) : Int)) ∧ ∃ m : Nat, m + r.d = n ∧ Sum m g
theorem inv_step {r q : Rw} {n : Nat} {g : Rg} (h : Inv r n g) (hf : fitE r q = true) (hn : n ≤ 650) (i j : Int) (fs : Nat → FS) :
    ∃ n' g', n' ≤ n + 1 ∧ Inv q n' g' ∧ (eff r.e).map (·.den (Ev i j g fs)) = g'.l := by
  obtain ⟨h3, ⟨m1, e1, v1⟩, ⟨m2, e2, v2⟩, m, ed, hs⟩ := h
  unfold fitE at hf
  cases h0 : Nat.beq r.e 0 with
  | true =>
    rw [h0, ife_true] at hf
    simp only [Bool.and_eq_true, Nat.beq_eq] at hf
    obtain ⟨q1, q2, q3, q4, q5⟩ := hf
    refine ⟨n, g, by omega, ⟨h3, ⟨m1, by omega, by rw [q1]; exact v1⟩, ⟨m2, by omega, by rw [q3]; exact v2⟩, m, by omega, hs⟩, ?_⟩
    rw [Nat.beq_eq] at h0; rw [h0]; rfl
  | false =>
  rw [h0, ife_false] at hf
  cases h1 : Nat.beq r.e 1 with
  | true =>
    rw [h1, ife_true] at hf
    simp only [Bool.and_eq_true, Nat.beq_eq] at hf
    obtain ⟨q1, q2, q3, q4, q5⟩ := hf
    refine ⟨n, ⟨g.a3, g.a3, g.a6, g.b1, g.b3, g.b6⟩, by omega, ⟨h3, ⟨n, by omega, by rw [q1, Nat.one_mul]; exact h3⟩, ⟨m2, by omega, by rw [q3]; exact v2⟩, m, by omega, hs⟩, ?_⟩
    rw [Nat.beq_eq] at h1; rw [h1]; rfl
  | false =>
  rw [h1, ife_false] at hf
  cases h2 : Nat.beq r.e 2 with
  | true =>
    rw [h2, ife_true] at hf
    simp only [Bool.and_eq_true, Nat.beq_eq, Nat.add_eq] at hf
    obtain ⟨q1, q2, q3, q4, q5⟩ := hf
    refine ⟨n + 1, ⟨g.a1, IntKind.u64.wrap (g.a3 + 1), g.a6, g.b1, g.b3, g.b6⟩, by omega, ⟨?_, ⟨m1, by omega, by rw [q1]; exact v1⟩, ⟨m2, by omega, by rw [q3]; exact v2⟩, m, by omega, hs⟩, ?_⟩
    · show IntKind.u64.wrap (g.a3 + 1) = _
      rw [wrapU (by omega) (by omega)]; omega
    · rw [Nat.beq_eq] at h2; rw [h2]; rfl
  | false =>
  rw [h2, ife_false] at hf
  cases h3' : Nat.beq r.e 3 with
  | true =>
    rw [h3', ife_true] at hf
    simp only [Bool.and_eq_true, Nat.beq_eq] at hf
    obtain ⟨q1, q2, q3, q4, q5⟩ := hf
    refine ⟨n, ⟨g.a1, g.a3, g.a6, g.a1, g.b3, g.b6⟩, by omega, ⟨h3, ⟨m1, by omega, by rw [q1]; exact v1⟩, ⟨m1, by omega, by rw [q3]; exact v1⟩, m, by omega, hs⟩, ?_⟩
    rw [Nat.beq_eq] at h3'; rw [h3']; rfl
  | false =>
  rw [h3', ife_false] at hf
  cases h5 : Nat.beq r.e 5 with
  | true =>
    rw [h5, ife_true] at hf
    simp only [Bool.and_eq_true, Nat.beq_eq, Nat.add_eq] at hf
    obtain ⟨q1, q2, q3, q4, q5, q6, q7⟩ := hf
    have hm : m1 = m + 1 := by omega
    have ht := sq m
    have hb := tri_le (show m + 1 ≤ 700 by omega)
    have hv : g.a6 + g.a1 = (((m + 1) * (m + 1 + 1) : Nat) : Int) := by
      have hs' : g.a6 = ((m * (m + 1) : Nat) : Int) := hs
      rw [hs', v1, q6, hm, ht]; omega
    refine ⟨n, ⟨g.a1, g.a3, IntKind.u64.wrap (g.a6 + g.a1), g.b1, g.b3, g.b6⟩, by omega, ⟨h3, ⟨m1, by omega, by rw [q1]; exact v1⟩, ⟨m2, by omega, by rw [q3]; exact v2⟩, m + 1, by omega, ?_⟩, ?_⟩
    · show IntKind.u64.wrap (g.a6 + g.a1) = _
      rw [hv]
      exact wrapU (by omega) (by omega)
    · rw [Nat.beq_eq] at h5; rw [h5]; rfl
  | false =>
  rw [h5, ife_false] at hf
  cases h6 : Nat.beq r.e 6 with
  | true =>
    rw [h6, ife_true] at hf
    simp only [Bool.and_eq_true, Nat.beq_eq] at hf
    obtain ⟨q1, q2, q3, q4, q5, q6⟩ := hf
    have hv : g.b1 + g.b1 = ((2 * m2 : Nat) : Int) := by rw [v2, q3]; omega
    refine ⟨n, ⟨g.a1, g.a3, g.a6, IntKind.u64.wrap (g.b1 + g.b1), g.b3, g.b6⟩, by omega, ⟨h3, ⟨m1, by omega, by rw [q1]; exact v1⟩, ⟨m2, by omega, ?_⟩, m, by omega, hs⟩, ?_⟩
    · show IntKind.u64.wrap (g.b1 + g.b1) = _
      rw [hv, q4]
      exact wrapU (by omega) (by omega)
    · rw [Nat.beq_eq] at h6; rw [h6]; rfl
  | false =>
  rw [h6, ife_false] at hf
  cases h7 : Nat.beq r.e 7 with
  | false => rw [h7, ife_false] at hf; cases hf
  | true =>
    rw [h7, ife_true] at hf
    simp only [Bool.and_eq_true, Nat.beq_eq] at hf
    obtain ⟨q1, q2, q3, q4, q5⟩ := hf
    refine ⟨n, ⟨g.b1, g.a3, g.a6, g.b1, g.b3, g.b6⟩, by omega, ⟨h3, ⟨m2, by omega, by rw [q1]; exact v2⟩, ⟨m2, by omega, by rw [q3]; exact v2⟩, m, by omega, hs⟩, ?_⟩
    rw [Nat.beq_eq] at h7; rw [h7]; rfl
theorem inv_same {r q : Rw} {n : Nat} {g : Rg} (h : Inv r n g) (h1 : q.k1 = r.k1) (h2 : q.c1 = r.c1) (h3 : q.k2 = r.k2) (h4 : q.c2 = r.c2) (h5 : q.d = r.d) : Inv q n g := by
  unfold Inv
  rw [h1, h2, h3, h4, h5]; exact h
theorem inv_start : Inv (row 0) 0 ⟨0, 0, 0, 0, 0, 0⟩ := ⟨rfl, ⟨0, rfl, rfl⟩, ⟨0, rfl, rfl⟩, 0, rfl, rfl⟩
theorem kin_ok {i : Int} {fs : Nat → FS} (h0 : 0 ≤ i) (h1 : i < ((fs 0).len : Int)) (h2 : i < 80) (j : Int) (g : Rg) : ∀ p ∈ Kin, p.1.den (Ev i j g fs) = p.2 := fun p hp => by
  simp only [Kin, List.mem_cons, List.not_mem_nil, or_false] at hp
  rcases hp with rfl | rfl | rfl
  · exact decide_eq_true h1
  · exact decide_eq_true h2
  · exact decide_eq_false (by show ¬ i < 0; omega)
theorem kb_ok {r : Rw} {n : Nat} {g : Rg} (h : Inv r n g) (hn : n ≤ 650) (hd : r.d ≤ 1) {i : Int} {fs : Nat → FS} (h0 : 0 ≤ i) (h1 : i < ((fs 0).len : Int)) (h2 : i < 80) (j : Int) : ∀ p ∈ KB r.d 0, p.1.den (Ev i j g fs) = p.2 := fun p hp => by
  obtain ⟨h3, _, _, m, ed, hs⟩ := h
  have hs' : g.a6 = ((m * (m + 1) : Nat) : Int) := hs
  have hl := tri_le (show n ≤ 700 by omega)
  have hA : eqA.den (Ev i j g fs) = decide (m * (m + 1) = n * (n + 1)) := by
    show decide (g.a6 = IntKind.u64.wrap (g.a3 * IntKind.u64.wrap (g.a3 + 1))) = _
    rw [h3, hs', wrapU (x := (n : Int) + 1) (by omega) (by omega), show (n : Int) * ((n : Int) + 1) = ((n * (n + 1) : Nat) : Int) by push_cast; rfl, wrapU (by omega) (by omega), Bool.eq_iff_iff, decide_eq_true_eq, decide_eq_true_eq, Int.ofNat_inj]
  unfold KB at hp
  cases hb : Nat.beq r.d 0 with
  | true =>
    rw [hb, ife_true, List.mem_cons] at hp
    rw [Nat.beq_eq] at hb
    rcases hp with rfl | hp
    · have e : m = n := by omega
      rw [hA, e]; exact decide_eq_true rfl
    · exact kin_ok h0 h1 h2 j g p hp
  | false =>
    rw [hb, ife_false, List.mem_cons, List.mem_cons, List.mem_cons] at hp
    have hd1 : r.d = 1 := by
      have : ¬ r.d = 0 := fun e => by rw [e] at hb; cases hb
      omega
    have e : n = m + 1 := by omega
    have ht := sq m
    rcases hp with rfl | rfl | rfl | hp
    · rw [hA, e, ht]; exact decide_eq_false (by omega)
    · show decide (g.a3 = 0) = false
      rw [h3]; exact decide_eq_false (by omega)
    · show decide (g.a6 = IntKind.u64.wrap (IntKind.u64.wrap (g.a3 - 1) * g.a3)) = true
      have e2 : ((n : Int) - 1) = (m : Int) := by omega
      rw [h3, hs', e2, wrapU (x := (m : Int)) (by omega) (by omega), e, show (m : Int) * ((m + 1 : Nat) : Int) = ((m * (m + 1) : Nat) : Int) by push_cast; rfl, wrapU (by omega) (by rw [e] at hl; omega)]
      exact decide_eq_true rfl
    · exact kin_ok h0 h1 h2 j g p hp
theorem wrapI {x : Int} (h0 : 0 ≤ x) (h : x < 9223372036854775808) : IntKind.i64.wrap x = x := by
  have hb : ((2 : Int) ^ IntKind.i64.bits) = 18446744073709551616 := by decide
  have hb2 : ((2 : Int) ^ (IntKind.i64.bits - 1)) = 9223372036854775808 := by decide
  unfold IntKind.wrap
  simp only [hb, hb2]
  rw [Int.emod_eq_of_lt (by omega) (by omega)]
  simp
  intro _
  omega
/-! ### The walk -/
theorem callFn {P : Program} {f : Nat} {fn : Func} {c : Code} (hf : P.funcs[f]? = some fn) (hb : fn.body = some c) (hn : fn.name ≠ "runtime.NumGoroutine") (args : Array Value) (w : World) : (callFunc f args).run P w = .ok (.enter f args) w := by
  simp [callFunc, program, Sem.run, hf, hb, hn]
theorem r5 {Q : Exit → Act → World → Prop} {a : Act} {w : World} {u3 u4 : Value} {R : Value → Value → World → Prop} (h3 : a.tmps[3]? = some u3) (h4 : a.tmps[4]? = some u4) (hs : a.tmps.size = 104)
    (hc : Calls Tryz.prog 13 #[u3, u4] w fun e w1 => ∃ d, e = .returned d ∧ Calls Tryz.prog 9 #[d] w1 fun e w2 => ∃ p b, e = .returned (.tuple #[p, b]) ∧ R p b w2)
    (hQ : ∀ p b w2 a', R p b w2 → a'.tmps.size = 104 → a'.defers = a.defers → a'.tmps[0]? = a.tmps[0]? → a'.tmps[5]? = some p → a'.tmps[6]? = some b → Q .normal a' w2) : (seqL (dropS 4 body)).wp Tryz.prog Q a w := by
  have e3 : a.tmps[3]'(by omega) = u3 := by rw [Array.getElem?_eq_getElem (by omega)] at h3; injection h3
  have e4 : a.tmps[4]'(by omega) = u4 := by rw [Array.getElem?_eq_getElem (by omega)] at h4; injection h4
  refine wp_region (id := 5) ?_
  simp [wpOps, go_sem, Act.eval, hs, e3, e4]
  refine .inl (.inl (.inl ?_))
  refine Calls.mono hc fun e w1 ⟨d, he, hd⟩ => ?_
  subst he
  refine .inl ?_
  refine Calls.mono hd fun e w2 ⟨p, b, he, hp⟩ => ?_
  subst he
  refine .inl (.inl ?_)
  simp [go_sem, hs]
  refine .inl (.inl (.inl ?_))
  exact hQ p b w2 _ hp (by simp [hs]) rfl (by simp) (by simp [hs]) (by simp [hs])
section
variable {fs : Nat → FS}
theorem env0 {K : List (Atom × Bool)} {F : List Fact} {σ : Nat → Int} {β : Nat → Bool} (hF : ∀ f ∈ F, ∀ (C : Ctx), C.P = Tryz.prog → ∀ H, CallOk C (Ext (Env.of σ β fs)) f.f f.args H f.res H) (hK : ∀ p ∈ K, p.1.den (Env.of σ β fs) = p.2) : Env0 (Cx K F) (Cx [] []) σ β fs :=
  ⟨⟨hC.ty, hC.fn⟩, hprog, hsil, fun f hf H => hF f hf _ rfl H, hK, rfl⟩
theorem envK {K : List (Atom × Bool)} {σ : Nat → Int} {β : Nat → Bool} (hK : ∀ p ∈ K, p.1.den (Env.of σ β fs) = p.2) : Env0 (Cx K []) (Cx [] []) σ β fs := env0 (fun f hf => by cases hf) hK
theorem env1 {σ : Nat → Int} {β : Nat → Bool} : Env0 (Cx [] []) (Cx [] []) σ β fs := envK fun p hp => by cases hp
theorem facts_ok {σ : Nat → Int} {β : Nat → Bool} : ∀ f ∈ facts, ∀ (C : Ctx), C.P = Tryz.prog → ∀ H, CallOk C (Ext (Env.of σ β fs)) f.f f.args H f.res H := fun f hf C hP H => by
  obtain ⟨P, ty, fnn, know, fk, fc, si⟩ := C
  have hP' : P = Tryz.prog := hP
  subst hP'
  simp only [facts, List.mem_cons, List.not_mem_nil, or_false] at hf
  subst hf
  exact fact_val (C := ⟨Tryz.prog, ty, fnn, know, fk, fc, si⟩) hprog (fn := Tryz.f7) (c := _) Tryz.func7 rfl rfl rfl rfl rfl ans_works H
theorem nn0 : Names [] [] (fun _ => (0 : Int)) (fun _ => false) := ⟨fun j v h => by simp at h, fun j v h => by simp at h⟩
variable {W : World} {a : Act} {w : World}
/-- What the making of a system answers. -/
theorem sys {d : Value} (hA : At W (Cx [] []) 1 S13 [] [] fs ⟨#[d], []⟩ w) : Calls Tryz.prog 9 #[d] w fun e w' => ∃ p b, e = .returned (.tuple #[p, b]) ∧ At W (Cx [] []) 2 ⟨[(0, .ptr 0 0), (1, .bool (.lit true))], hblks⟩ [] [] fs ⟨#[p, b], []⟩ w' := by
  have hN : Tryz.f9.ntmps = 35 := by kernel_rfl
  have hbody : Tryz.f9.body = some body9 := by kernel_rfl
  refine Calls.mono (callAt (C := Cx [] []) (C0 := Cx [] []) (f := 9) (fn := Tryz.f9) (c := body9) (avs := [d13]) (us := [d]) Tryz.func9 hbody hA (R := fun e w' => ∃ u, e = .returned u ∧ At W (Cx [] []) 1 Sr [] [] fs ⟨#[u], []⟩ w') (fun j v h => ?_) rfl (by rw [hN]; decide) (by rw [hN]; decide) fun a9 h9 => ?_) fun e w' ⟨u, he, hu⟩ => ?_
  · match j, h with
    | 0, h => injection h with h; subst h; exact ⟨0, d, rfl, rfl, rfl⟩
  · rw [hN] at h9
    refine run_parts (C := Cx [] []) h9 nn0 env1 (by decide) code9_ok run_h2 fun a2 w2 h2 => ?_
    refine run_parts (C := Cx [] []) h2 nn0 env1 (by decide) (codeOk_drop (k := 2) code9_ok) run_h3 fun a3 w3 h3 => ?_
    refine run_parts (C := Cx [] []) (c := dropS 5 body9) h3 nn0 env1 (by decide) (codeOk_drop (k := 5) code9_ok) run_h4 fun a4 w4 h4 => ?_
    exact run_endV (C := Cx [] []) (c := dropS 6 body9) h4 nn0 env1 (by decide) (codeOk_drop (k := 6) code9_ok) run_h5
  · subst he
    obtain ⟨p, b, k1, k2⟩ := hu.tup (t0 := 0) (v1 := .ptr 0 0) (v2 := .bool (.lit true)) rfl
    have k3 : u = .tuple #[p, b] := by simpa using k1
    subst k3
    exact ⟨p, b, rfl, k2⟩
/-- Up to the loop. -/
theorem head {Q : Exit → Act → World → Prop} (hA : At W (Cx [] []) 104 Sa [] [] fs a w) (hq : ∀ a' w', At W (Cx [] []) 104 Sb [] [] fs a' w' → (dropS 5 body).wp Tryz.prog Q a' w') : (dropS 4 body).wp Tryz.prog Q a w := by
  have hdf : a.defers = [] := by obtain ⟨ρ, h⟩ := hA; exact (h _ _ nn0).dfr
  have hsz : a.tmps.size = 104 := by obtain ⟨ρ, h⟩ := hA; exact (h _ _ nn0).tmps.size
  have get : ∀ t v, Sa.st.τ.get t = some v → ∃ u, a.tmps[t]? = some u := fun t v e => by
    obtain ⟨ρ, h⟩ := hA
    obtain ⟨u, h1, _⟩ := (h _ _ nn0).tmps.get t v e
    exact ⟨u, h1⟩
  obtain ⟨u3, h3⟩ := get 3 av3 rfl
  obtain ⟨u4, h4⟩ := get 4 av4 rfl
  have h0 : a.tmps[0]? = some (fs 0).v := by
    obtain ⟨ρ, h⟩ := hA
    obtain ⟨u, h1, h2⟩ := (h _ _ nn0).tmps.get 0 (.fsl 0) rfl
    have h2' : u = (fs 0).v := by simpa only [Rel] using h2
    rw [h1, h2']
  have hN : Tryz.f13.ntmps = 94 := by kernel_rfl
  have hbody : Tryz.f13.body = some body13 := by kernel_rfl
  refine wp_seqP (by kernel_rfl) (r5 (R := fun p b w2 => At W (Cx [] []) 2 ⟨[(0, .ptr 0 0), (1, .bool (.lit true))], hblks⟩ [] [] fs ⟨#[p, b], []⟩ w2) h3 h4 hsz ?_ fun p b w2 a' hR k1 k2 k3 k5 k6 => ?_)
  · refine Calls.mono (callAt (C := Cx [] []) (C0 := Cx [] []) (f := 13) (fn := Tryz.f13) (c := body13) (avs := [av3, av4]) (us := [u3, u4]) Tryz.func13 hbody hA (R := fun e w' => ∃ u, e = .returned u ∧ At W (Cx [] []) 1 S13 [] [] fs ⟨#[u], []⟩ w') (fun j v h => ?_) rfl (by rw [hN]; decide) (by rw [hN]; decide) fun a9 h9 => ?_) fun e w' ⟨u, he, hu⟩ => ⟨u, he, sys hu⟩
    · match j, h with
      | 0, h => injection h with h; subst h; exact ⟨3, u3, rfl, h3, rfl⟩
      | 1, h => injection h with h; subst h; exact ⟨4, u4, rfl, h4, rfl⟩
    · rw [hN] at h9
      exact run_endV (C := Cx [] []) h9 nn0 env1 (by decide) code13_ok run_h1
  · refine hq a' w2 (hR.swap (sl := [(0, .fsl 0), (5, .ptr 0 0), (6, .bool (.lit true))]) (k2.trans hdf) k1 (by decide) fun t v hm => ?_)
    simp only [List.mem_cons, Prod.mk.injEq, List.not_mem_nil, or_false] at hm
    rcases hm with ⟨rfl, rfl⟩ | ⟨rfl, rfl⟩ | ⟨rfl, rfl⟩
    · exact ⟨by decide, _, k3.trans h0, .inr fun E hE => by simp only [Rel]; rw [hE]⟩
    · exact ⟨by decide, p, k5, .inl ⟨0, rfl, rfl⟩⟩
    · exact ⟨by decide, b, k6, .inl ⟨1, rfl, rfl⟩⟩
end
theorem ok_parts (s : Nat) (h : s < 118) : okStep s = true ∧ okOut s = true ∧ okTick s = true ∧ okRead s = true ∧ okB s 0 = true ∧ okInc s = true ∧ okHead s = true ∧ okEnd1 s = true ∧ okEnd2 s = true ∧ okIn s = true := by
  have := okRows s h
  unfold okRow at this
  simp only [Bool.and_eq_true] at this
  exact this
theorem fit_parts (s : Nat) (h : s < 118) : (row s).ns < 118 ∧ (row s).nt < 118 ∧ (row s).d ≤ 1 ∧ fitE (row s) (row (row s).ns) = true ∧ (∀ n g, Inv (row s) n g → Inv (row (row s).nt) n g) := by
  have := allTo_ok fits s h
  unfold fit at this
  simp only [Bool.and_eq_true, Nat.blt_eq, Nat.ble_eq, Nat.beq_eq] at this
  obtain ⟨h1, h2, h3, _, _, h6, h7, h8, h9, h10, h11⟩ := this
  exact ⟨h1, h2, h3, h6, fun n g hI => inv_same hI h7 h8 h9 h10 h11⟩
section
variable {fs : Nat → FS} {W : World} {a : Act} {w : World}
theorem den_θi (i j : Int) (g : Rg) : θi.map (·.den (Ev i j g fs)) = vals i 0 g := rfl
/-- What is read and asked behind a tick, and the round's end. -/
theorem rest {s n : Nat} {g : Rg} {i j : Int} (hs : s < 118) (hI : Inv (row s) n g) (hn : n ≤ 650) (h0 : 0 ≤ i) (h1 : i < ((fs 0).len : Int)) (h2 : i < 80) (hA : At W (Cx [] []) 104 (O s) (vals i 0 g) [] fs a w) {Q : Exit → Act → World → Prop}
    (hQ : ∀ s' a' w', s' < 118 → Inv (row s') n g → At W (Cx [] []) 104 (O s') (vals i 0 g) [] fs a' w' → Q .normal a' w') : Rc.wp Tryz.prog Q a w := by
  obtain ⟨f1, f2, f3, f4, f5⟩ := fit_parts s hs
  have kin := kin_ok (fs := fs) h0 h1 h2 0 g
  have hcR : codeOk 104 Rc = true := (codeOk_seq (codeOk_blk (codeOk_seq (codeOk_seq (codeOk_loop (codeOk_blk (codeOk_seq (codeOk_seq (codeOk_drop (k := 6) code_ok)).1).2))).2).1)).2
  refine run_parts (C := Cx Kin []) (k := 1) hA (names i 0 g) (envK kin) (by decide) hcR (ok_parts s hs).2.2.1 fun a1 w1 hA1 => ?_
  have hI1 := f5 n g hI
  obtain ⟨_, _, _, p4, pB, _⟩ := ok_parts (row s).nt f2
  have hA1' : At W (Cx [] []) 104 (O (row s).nt) (vals i 0 g) [] fs a1 w1 := hA1
  refine run_parts (C := Cx Kin []) (k := 2) (c := seqR Rc) hA1' (names i 0 g) (envK kin) (by decide) (codeOk_seq hcR).2 p4 fun a2 w2 hA2 => ?_
  have hA2' : At W (Cx [] []) 104 (M (row s).nt) (vals i 0 g) [] fs a2 w2 := hA2
  have run1 : ∀ v, okB (row s).nt v = true → (∀ p ∈ KB (row (row s).nt).d v, p.1.den (Ev i 0 g fs) = p.2) → (dropS 2 (seqR Rc)).wp Tryz.prog Q a2 w2 := fun v hv hk =>
    wp_mono (run_norm (C := Cx (KB (row (row s).nt).d v) []) hA2' (names i 0 g) (envK hk) (by decide) (codeOk_drop (k := 2) (codeOk_seq hcR).2) hv) fun ex a3 w3 ⟨hex, hA3⟩ => by
      subst hex
      exact hQ _ a3 w3 f2 hI1 hA3
  exact run1 0 pB (kb_ok hI1 hn (fit_parts _ f2).2.2.1 h0 h1 h2 (i := i) (fs := fs) 0)
/-- The inner loop: the steps. -/
theorem steps {s n : Nat} {g : Rg} {i : Int} (hs : s < 118) (hI : Inv (row s) n g) (h0 : 0 ≤ i) (hn : (n : Int) ≤ 8 * i) (h1 : i < ((fs 0).len : Int)) (h2 : i < 80) (hA : At W (Cx [] []) 104 (I s) (vals i 0 g) [] fs a w) {Q : Exit → Act → World → Prop}
    (hQ : ∀ (s' n' : Nat) (g' : Rg) a' w', s' < 118 → (n' : Int) ≤ 8 * i + 8 → Inv (row s') n' g' → At W (Cx [] []) 104 (O s') (vals i 0 g') [] fs a' w' → Q .normal a' w') : (seqR (seqL Yc)).wp Tryz.prog Q a w := by
  have hcY : codeOk 104 Yc = true := codeOk_blk (codeOk_seq (codeOk_seq (codeOk_loop (codeOk_blk (codeOk_seq (codeOk_seq (codeOk_drop (k := 6) code_ok)).1).2))).2).1
  have hcl : codeOk 104 (loopB ilp) = true := codeOk_loop (codeOk_blk (codeOk_seq (codeOk_seq hcY).1).2)
  have hrem : ∀ (j : Int) (g : Rg), 0 ≤ remT.den (Ev i j g fs) ∧ remT.den (Ev i j g fs) < 9 := fun j g => by
    show 0 ≤ IntKind.i64.wrap ((IntKind.u64.wrap ((fs 0).cell i.toNat 0)).tmod 9) ∧ IntKind.i64.wrap ((IntKind.u64.wrap ((fs 0).cell i.toNat 0)).tmod 9) < 9
    have e0 : 0 ≤ IntKind.u64.wrap ((fs 0).cell i.toNat 0) := by
      simp only [IntKind.wrap, IntKind.signed, Bool.false_and, Bool.false_eq_true, if_false]
      exact Int.emod_nonneg _ (by decide)
    have e1 := Int.tmod_nonneg 9 e0
    have e3 := Int.tmod_lt_of_pos (IntKind.u64.wrap ((fs 0).cell i.toNat 0)) (show (0 : Int) < 9 by decide)
    generalize (IntKind.u64.wrap ((fs 0).cell i.toNat 0)).tmod 9 = m at e1 e3
    rw [wrapI (by omega) (by omega)]
    exact ⟨e1, e3⟩
  refine wp_blkP isb2 (wp_loopP isl2 (fun m a w => ∃ (s n : Nat) (g : Rg) (j : Int), m = (9 - j).toNat ∧ (0 ≤ j ∧ j ≤ 8) ∧ s < 118 ∧ (n : Int) ≤ 8 * i + j ∧ Inv (row s) n g ∧ At W (Cx [] []) 104 (I s) (vals i j g) [] fs a w) (n := 9) ⟨s, n, g, 0, rfl, by omega, hs, by omega, hI, hA⟩ ?_)
  intro m a w ⟨s, n, g, j, hm, hj, hs, hn, hI, hA⟩
  obtain ⟨p1, p2, _⟩ := ok_parts s hs
  obtain ⟨f1, f2, f3, f4, f5⟩ := fit_parts s hs
  have kin := kin_ok (fs := fs) h0 h1 h2 j g
  have hr := hrem j g
  by_cases hjr : j < remT.den (Ev i j g fs)
  · have hk : ∀ p ∈ Kj true, p.1.den (Ev i j g fs) = p.2 := fun p hp => by
      rcases List.mem_cons.1 hp with rfl | hp
      · exact decide_eq_true hjr
      · exact kin p hp
    obtain ⟨n', g', k1, k2, k3⟩ := inv_step hI f4 (by omega) i j fs
    refine wp_mono (run_norm (C := Cx (Kj true) []) hA (names i j g) (envK hk) (by decide) hcl p1) fun ex a2 w2 ⟨hex, hA2⟩ => .inl ⟨hex, (9 - (j + 1)).toNat, by omega, (row s).ns, n', g', j + 1, rfl, by omega, f1, by omega, k2, hA2.eq ?_ rfl⟩
    show i :: IntKind.i64.wrap (j + 1) :: (eff (row s).e).map (·.den (Ev i j g fs)) = i :: (j + 1) :: g'.l
    rw [k3, wrapI (by omega) (by omega)]
  · have hk : ∀ p ∈ Kj false, p.1.den (Ev i j g fs) = p.2 := fun p hp => by
      rcases List.mem_cons.1 hp with rfl | hp
      · exact decide_eq_false hjr
      · exact kin p hp
    refine wp_mono (run_exit (C := Cx (Kj false) []) hA (names i j g) (envK hk) (by decide) hcl p2) fun ex a2 w2 ⟨hex, hA2⟩ => ?_
    subst hex
    refine .inr ⟨by simp, ?_⟩
    show if 2 = 2 then Q .normal a2 w2 else Q (.exit 2) a2 w2
    rw [if_pos rfl]
    exact hQ s n g a2 w2 hs (by omega) hI hA2
end
theorem holds (v : Value) (w : World) (hv : SlOk w v [some .i64]) : Calls Tryz.prog 5 #[v] w fun e w' => e = .returned (.bool true) ∧ Below w.heap.size w w' := by
  obtain ⟨f1, f2, f3, f4, f5⟩ := hv.fok
  generalize hfs : (fun i => if i = 0 then fsOf w v 1 else FS.no : Nat → FS) = fs
  have e0 : fs 0 = fsOf w v 1 := by rw [← hfs]; rfl
  have hfok : FOk (fun r => r < w.heap.size) w (Cx [] []) (Env.of (fun _ => 0) (fun _ => false) fs) := by
    refine ⟨fun i => ?_, fun i ks hk => ?_, fun i ks q j ok hk => ?_⟩
    · show (fs i).v.oneCell' = true
      rw [← hfs]
      show (if i = 0 then fsOf w v 1 else FS.no).v.oneCell' = true
      split
      · exact f1
      · rfl
    · rw [nth_eq] at hk
      show (fs i).esz = _ ∧ (((fs i).v = _ ∧ (fs i).len = 0) ∨ ((fs i).blk < _ ∧ ∃ c, (fs i).v = .slice (some ⟨(fs i).blk, (fs i).off, none⟩) (fs i).len c))
      match i, hk with
      | 0, hk => simp [Cx, fkR] at hk; subst hk; rw [e0]; exact ⟨f2, f4⟩
      | i + 1, hk => simp [Cx, fkR] at hk
    · rw [nth_eq] at hk
      show q < (fs i).len → ks[j]? = some ok → w.cell? ⟨(fs i).blk, (fs i).off + q * (fs i).esz + j, none⟩ = some (kindVal ok ((fs i).cell q j))
      match i, hk with
      | 0, hk => simp [Cx, fkR] at hk; subst hk; rw [e0]; exact f5 q j ok
      | i + 1, hk => simp [Cx, fkR] at hk
  have hN : Tryz.f5.ntmps = 104 := by kernel_rfl
  have hbody : Tryz.f5.body = some body := by kernel_rfl
  refine call_at (C := Cx [] []) (σl := []) (βl := []) (fs := fs) (f := 5) (fn := Tryz.f5) (c := body) Tryz.func5 hbody (args := [.fsl 0]) (us := [v]) (fun σ β hn => ?_) hfok rfl (by rw [hN]; decide) (by rw [hN]; decide) fun a hA => ?_
  · have : AV.valEs (Env.of σ β fs) [.fsl 0] = some [(fs 0).v] := rfl
    rw [this, e0, show (fsOf w v 1).v = v from f3]
  rw [hN] at hA
  generalize hQ : bodyPostD (Cx [] []).P Tryz.f5 (fun e w' => e = .returned (.bool true) ∧ Below w.heap.size w w') = Q
  have hcy : codeOk 104 yc = true := codeOk_drop (k := 6) code_ok
  have hcX : codeOk 104 Xc = true := codeOk_loop (codeOk_blk (codeOk_seq (codeOk_seq hcy).1).2)
  have hcY : codeOk 104 Yc = true := codeOk_blk (codeOk_seq (codeOk_seq hcX).2).1
  refine run_parts (C := Cx [] facts) hA nn0 (env0 facts_ok fun p hp => by cases hp) (by decide) code_ok run_a fun a1 w1 hA1 => ?_
  refine head hA1 fun a2 w2 hA2 => ?_
  refine run_parts (C := Cx [] []) (k := 1) (c := dropS 5 body) hA2 nn0 env1 (by decide) (codeOk_drop (k := 5) code_ok) run_c fun a3 w3 hA3 => ?_
  show yc.wp _ _ _ _
  refine wp_seqP iss1 (wp_seqP iss2 (wp_mono (run_norm (C := Cx [] []) hA3 nn0 env1 (by decide) (codeOk_seq (codeOk_seq hcy).1).1 run_z) fun ex a4 w4 ⟨hex, hA4⟩ => ?_))
  subst hex
  have hA4' : At w (Cx [] []) 104 (O 0) (vals 0 0 ⟨0, 0, 0, 0, 0, 0⟩) [] fs a4 w4 := hA4
  refine wp_blkP isb0 (wp_loopP isl1 (fun m a w' => ∃ (s n : Nat) (g : Rg) (i : Int), m = (80 - i).toNat ∧ (0 ≤ i ∧ i ≤ 80) ∧ s < 118 ∧ (n : Int) ≤ 8 * i ∧ Inv (row s) n g ∧ At w (Cx [] []) 104 (O s) (vals i 0 g) [] fs a w') (n := 80) ⟨0, 0, _, 0, rfl, by omega, by decide, by decide, inv_start, hA4'⟩ ?_)
  intro m a w' ⟨s, n, g, i, hm, hi, hs, hn, hI, hAt⟩
  obtain ⟨_, _, _, _, _, p6, p7, p8, p9, p10⟩ := ok_parts s hs
  -- the loop ends
  have out : ∀ (K : List (Atom × Bool)), (∀ p ∈ K, p.1.den (Ev i 0 g fs) = p.2) → okExit 0 [] [] [] 104 SE (run K (seqL Xc) (O s).st) = true → ∀ R : Exit → Act → World → Prop, (∀ a3 w3, At w (Cx [] []) 104 SE [] [] fs a3 w3 → R (.exit 0) a3 w3) → (seqL Xc).wp Tryz.prog R a w' := fun K hK hrun R hR =>
    wp_mono (run_exit (C := Cx K []) hAt (names i 0 g) (envK hK) (by decide) (codeOk_seq hcX).1 hrun) fun ex a3 w3 ⟨hex, hA3⟩ => by subst hex; exact hR a3 w3 hA3
  have fin : ∀ a3 w3, At w (Cx [] []) 104 SE [] [] fs a3 w3 → Exit.inBlock 0 (Exit.then (Code.wp Tryz.prog (seqR yc) Q) Q) (.exit 0) a3 w3 := fun a3 w3 hA3 => by
    show if 0 = 0 then (Exit.then (Code.wp Tryz.prog (seqR yc) Q) Q) .normal a3 w3 else (Exit.then (Code.wp Tryz.prog (seqR yc) Q) Q) (.exit 0) a3 w3
    rw [if_pos rfl]
    show Code.wp Tryz.prog (seqR yc) Q a3 w3
    rw [← hQ]
    exact run_end (C := Cx [] []) hA3 nn0 env1 (by decide) (codeOk_seq hcy).2 run_rest rfl rfl
  by_cases c0 : i < ((fs 0).len : Int)
  case neg => exact wp_seqP iss3 (out _ (fun p hp => by simp only [List.mem_singleton] at hp; subst hp; exact decide_eq_false c0) p8 _ fun a3 w3 h3 => .inr ⟨by simp, fin a3 w3 h3⟩)
  by_cases c1 : i < 80
  case neg => exact wp_seqP iss3 (out _ (fun p hp => by
    simp only [List.mem_cons, List.not_mem_nil, or_false] at hp
    rcases hp with rfl | rfl
    · exact decide_eq_true c0
    · exact decide_eq_false c1) p9 _ fun a3 w3 h3 => .inr ⟨by simp, fin a3 w3 h3⟩)
  have kin : ∀ g, ∀ p ∈ Kin, p.1.den (Ev i 0 g fs) = p.2 := fun g => kin_ok (fs := fs) hi.1 c0 c1 0 g
  refine wp_seqP iss3 (wp_mono (run_norm (C := Cx Kin []) hAt (names i 0 g) (envK (kin g)) (by decide) (codeOk_seq hcX).1 p7) fun ex a5 w5 ⟨hex, hA5⟩ => ?_)
  subst hex
  have hA5' : At w (Cx [] []) 104 (O s) (vals i 0 g) [] fs a5 w5 := hA5
  refine wp_seqP iss4 (wp_blkP isb1 (wp_seqP iss5 (wp_seqP iss6 (wp_mono (run_norm (C := Cx Kin []) hA5' (names i 0 g) (envK (kin g)) (by decide) (codeOk_seq (codeOk_seq hcY).1).1 p10) fun ex a6 w6 ⟨hex, hA6⟩ => ?_))))
  subst hex
  have hA6' : At w (Cx [] []) 104 (I s) (vals i 0 g) [] fs a6 w6 := hA6
  refine steps hs hI hi.1 hn c0 c1 hA6' fun s7 n7 g7 a7 w7 hs7 hn7 hI7 hA7 => ?_
  refine rest (j := 0) hs7 hI7 (by omega) hi.1 c0 c1 hA7 fun s8 a8 w8 hs8 hI8 hA8 => ?_
  obtain ⟨_, _, _, _, _, q6, _⟩ := ok_parts s8 hs8
  show (seqR (seqR Xc)).wp Tryz.prog _ a8 w8
  refine wp_mono (run_norm (C := Cx Kin []) hA8 (names i 0 g7) (envK (kin g7)) (by decide) (codeOk_seq (codeOk_seq hcX).2).2 q6) fun ex a9 w9 ⟨hex, hA9⟩ => .inl ⟨hex, (80 - (i + 1)).toNat, by omega, s8, n7, g7, i + 1, rfl, by omega, hs8, by omega, hI8, hA9.eq ?_ rfl⟩
  show IntKind.i64.wrap (i + 1) :: 0 :: g7.l = (i + 1) :: 0 :: g7.l
  rw [wrapI (by omega) (by omega)]
end Sv
end Go.Proofs.YtjebljnifeoiaaaGreat.Vm.Top
