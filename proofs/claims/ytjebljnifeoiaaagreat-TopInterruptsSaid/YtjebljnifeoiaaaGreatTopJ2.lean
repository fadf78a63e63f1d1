/- TopInterrupts over the machine: the law. No condition. -/
import Derived.Test.YtjebljnifeoiaaaGreatTopW
import Derived.Test.YtjebljnifeoiaaaGreatTopIa
import Derived.Test.YtjebljnifeoiaaaGreatTopIh
import Derived.Test.YtjebljnifeoiaaaGreatTopIk
import Derived.Test.YtjebljnifeoiaaaGreatTopI2
import Derived.Test.YtjebljnifeoiaaaGreatTopI3
import Derived.Tactics
import Derived.Tactics2
namespace Go.Proofs.YtjebljnifeoiaaaGreat.Vm.Top
open Go Go.Proofs.YtjebljnifeoiaaaGreat.Vm Go.Proofs Go.RowKit
set_option maxRecDepth 1000000
set_option linter.unusedVariables false
set_option linter.unusedSimpArgs false
set_option linter.unusedSectionVars false
namespace Irq
theorem modI_range (E : Env) (i : Nat) (k : Int) (h : 0 < k) (h2 : k ≤ 1000) : 0 ≤ (modI i k).den E ∧ (modI i k).den E < k := by
  simp only [modI, SI.den, IOp.den]
  have h0 : 0 ≤ IntKind.u64.wrap (E.σ i) := by
    simp only [IntKind.wrap, IntKind.signed, Bool.false_and, Bool.false_eq_true, if_false]
    exact Int.emod_nonneg _ (by decide)
  have h1 := Int.tmod_nonneg k h0
  have h3 := Int.tmod_lt_of_pos (IntKind.u64.wrap (E.σ i)) h
  generalize (IntKind.u64.wrap (E.σ i)).tmod k = m at h1 h3
  have hb : ((2 : Int) ^ IntKind.i64.bits) = 18446744073709551616 := by decide
  have hb2 : ((2 : Int) ^ (IntKind.i64.bits - 1)) = 9223372036854775808 := by decide
  have e : IntKind.i64.wrap m = m := by
    unfold IntKind.wrap
    simp only [hb, hb2]
    rw [Int.emod_eq_of_lt (by omega) (by omega)]
    simp
    omega
  rw [e]; exact ⟨h1, h3⟩
section
variable {σ : Nat → Int} {β : Nat → Bool} {fs : Nat → FS}
theorem env0 {K : List (Atom × Bool)} {F : List Fact} (hF : ∀ f ∈ F, ∀ (C : Ctx), C.P = Tryz.prog → ∀ H, CallOk C (Ext (Env.of σ β fs)) f.f f.args H f.res H) (hK : ∀ p ∈ K, p.1.den (Env.of σ β fs) = p.2) : Env0 (Ci K F) (Ci [] []) σ β fs :=
  ⟨⟨hC.ty, hC.fn⟩, hprog, hsil, fun f hf H => hF f hf _ rfl H, hK, rfl⟩
theorem facts_ok : ∀ f ∈ facts, ∀ (C : Ctx), C.P = Tryz.prog → ∀ H, CallOk C (Ext (Env.of σ β fs)) f.f f.args H f.res H := fun f hf C hP H => by
  obtain ⟨P, ty, fnn, know, fk, fc, si⟩ := C
  have hP' : P = Tryz.prog := hP
  subst hP'
  simp only [facts, List.mem_cons, List.not_mem_nil, or_false] at hf
  subst hf
  exact fact_val (C := ⟨Tryz.prog, ty, fnn, know, fk, fc, si⟩) hprog (fn := Tryz.f7) (c := _) Tryz.func7 rfl rfl rfl rfl rfl ans_works H
theorem kB_ok {b : Nat} (h : (modI 0 5).den (Env.of σ β fs) = b) : ∀ p ∈ kB b, p.1.den (Env.of σ β fs) = p.2 := fun p hp => by
  simp only [kB, List.mem_cons, List.not_mem_nil, or_false] at hp
  rcases hp with rfl | rfl | rfl | rfl | rfl
  all_goals
    simp only [Atom.den, h, SI.den]
    rw [Bool.eq_iff_iff, decide_eq_true_eq, Nat.blt_eq]
    omega
theorem kR_ok {r : Nat} (h : (modI 1 4).den (Env.of σ β fs) = r) (h4 : r < 4) : ∀ p ∈ kR r, p.1.den (Env.of σ β fs) = p.2 := fun p hp => by
  simp only [kR, List.mem_cons, List.not_mem_nil, or_false] at hp
  rcases hp with rfl | rfl | rfl | rfl | rfl
  case inl => simp only [Atom.den, h, SI.den]; rw [Bool.eq_iff_iff, decide_eq_true_eq]; simp
  case inr.inr.inr.inr => simp only [Atom.den, h, SI.den]; rw [Bool.eq_iff_iff, decide_eq_true_eq]; simp; omega
  all_goals
    simp only [Atom.den, h, SI.den]
    rw [Bool.eq_iff_iff, decide_eq_true_eq, Nat.blt_eq]
    omega
end
theorem r5 {Q : Exit → Act → World → Prop} {a : Act} {w : World} {u3 u4 : Value} {R : Value → Value → World → Prop} (h3 : a.tmps[5]? = some u3) (h4 : a.tmps[6]? = some u4) (hs : a.tmps.size = 103)
    (hc : Calls Tryz.prog 13 #[u3, u4] w fun e w1 => ∃ d, e = .returned d ∧ Calls Tryz.prog 9 #[d] w1 fun e w2 => ∃ p b, e = .returned (.tuple #[p, b]) ∧ R p b w2)
    (hQ : ∀ p b w2 a', R p b w2 → a'.tmps.size = 103 → a'.defers = a.defers → a'.tmps[0]? = a.tmps[0]? → a'.tmps[1]? = a.tmps[1]? → a'.tmps[7]? = some p → a'.tmps[8]? = some b → Q .normal a' w2) : (seqL (dropS 4 body)).wp Tryz.prog Q a w := by
  have e3 : a.tmps[5]'(by omega) = u3 := by rw [Array.getElem?_eq_getElem (by omega)] at h3; injection h3
  have e4 : a.tmps[6]'(by omega) = u4 := by rw [Array.getElem?_eq_getElem (by omega)] at h4; injection h4
  refine wp_region (id := 5) ?_
  simp [wpOps, go_sem, Act.eval, hs, e3, e4]
  refine .inl (.inl (.inl ?_))
  refine Calls.mono hc fun e w1 ⟨d, he, hd⟩ => ?_
  subst he
  refine .inl ?_
  refine Calls.mono hd fun e w2 ⟨p, b, he, hp⟩ => ?_
  subst he
  refine .inl (.inl ?_)
  simp [go_sem, hs]
  refine .inl (.inl (.inl ?_))
  exact hQ p b w2 _ hp (by simp [hs]) rfl (by simp) (by simp) (by simp [hs]) (by simp [hs])

theorem back {W : World} {a : Act} {w : World} {x y : Int} {σ : Nat → Int} {S : Sp} {N : Nat} (hn : Names [x, y] [] σ (fun _ => false)) (h : At W (Ci [] []) N S (θ0.map (·.den (Env.of σ (fun _ => false) fun _ => FS.no))) [] (fun _ => FS.no) a w) : At W (Ci [] []) N S [x, y] [] (fun _ => FS.no) a w :=
  h.eq (by show [σ 0, σ 1] = _; rw [hn.σ 0 x rfl, hn.σ 1 y rfl]) rfl
theorem none1 {σ : Nat → Int} {K : List (Atom × Bool)} (h : ∀ p ∈ K, p.1.den (Env.of σ (fun _ => false) fun _ => FS.no) = p.2) : Env0 (Ci K []) (Ci [] []) σ (fun _ => false) fun _ => FS.no := env0 (fun f hf => by cases hf) h
/-- What the making of a system answers. -/
theorem sys {W : World} {w : World} {x y : Int} {σ : Nat → Int} {d : Value} (hn : Names [x, y] [] σ (fun _ => false)) (hA : At W (Ci [] []) 1 S13 [x, y] [] (fun _ => FS.no) ⟨#[d], []⟩ w) : Calls Tryz.prog 9 #[d] w fun e w' => ∃ p b, e = .returned (.tuple #[p, b]) ∧ At W (Ci [] []) 2 ⟨[(0, .ptr 0 0), (1, .bool (.lit true))], Sb.blks⟩ [x, y] [] (fun _ => FS.no) ⟨#[p, b], []⟩ w' := by
  have hN : Tryz.f9.ntmps = 35 := by kernel_rfl
  have hbody : Tryz.f9.body = some body9 := by kernel_rfl
  have e0 := none1 (σ := σ) (K := []) fun p hp => by cases hp
  refine Calls.mono (Cut.callAt (C := Ci [] []) (C0 := Ci [] []) (f := 9) (fn := Tryz.f9) (c := body9) (avs := [d13]) (us := [d]) Tryz.func9 hbody hA (R := fun e w' => ∃ u, e = .returned u ∧ At W (Ci [] []) 1 Sr (θ0.map (·.den (Env.of σ (fun _ => false) fun _ => FS.no))) [] (fun _ => FS.no) ⟨#[u], []⟩ w') (fun j v h => ?_) rfl (by rw [hN]; decide) (by rw [hN]; decide) fun a9 h9 => ?_) fun e w' ⟨u, he, hu⟩ => ?_
  · match j, h with
    | 0, h => injection h with h; subst h; exact ⟨0, d, rfl, rfl, rfl⟩
  · rw [hN] at h9
    refine run_parts (C := Ci [] []) h9 hn e0 (by decide) code9_ok run_h2 fun a2 w2 h2 => ?_
    refine run_parts (C := Ci [] []) (back hn h2) hn e0 (by decide) (codeOk_drop (k := 2) code9_ok) run_h3 fun a3 w3 h3 => ?_
    refine run_parts (C := Ci [] []) (c := dropS 5 body9) (back hn h3) hn e0 (by decide) (codeOk_drop (k := 5) code9_ok) run_h4 fun a4 w4 h4 => ?_
    exact Cut.run_endV (C := Ci [] []) (c := dropS 6 body9) (back hn h4) hn e0 (by decide) (codeOk_drop (k := 6) code9_ok) run_h5
  · subst he
    obtain ⟨p, b, k1, k2⟩ := Cut.tup (back hn hu) (t0 := 0) (v1 := .ptr 0 0) (v2 := .bool (.lit true)) rfl
    have k3 : u = .tuple #[p, b] := by simpa using k1
    subst k3
    exact ⟨p, b, rfl, k2⟩
/-- Up to the system. -/
theorem head {W : World} {a : Act} {w : World} {x y : Int} {σ : Nat → Int} {Q : Exit → Act → World → Prop} (hn : Names [x, y] [] σ (fun _ => false)) (hA : At W (Ci [] []) 103 Sa [x, y] [] (fun _ => FS.no) a w) (hq : ∀ a' w', At W (Ci [] []) 103 Sb [x, y] [] (fun _ => FS.no) a' w' → (dropS 5 body).wp Tryz.prog Q a' w') : (dropS 4 body).wp Tryz.prog Q a w := by
  have e0 := none1 (σ := σ) (K := []) fun p hp => by cases hp
  have hdf : a.defers = [] := by obtain ⟨ρ, h⟩ := hA; exact (h _ _ hn).dfr
  have hsz : a.tmps.size = 103 := by obtain ⟨ρ, h⟩ := hA; exact (h _ _ hn).tmps.size
  have get : ∀ t v, Sa.st.τ.get t = some v → ∃ u, a.tmps[t]? = some u := fun t v e => by
    obtain ⟨ρ, h⟩ := hA
    obtain ⟨u, h1, _⟩ := (h _ _ hn).tmps.get t v e
    exact ⟨u, h1⟩
  obtain ⟨u3, h3⟩ := get 5 av5 rfl
  obtain ⟨u4, h4⟩ := get 6 av6 rfl
  have num : ∀ (t i : Nat) z, Sa.st.τ.get t = some (.int .i64 (.var i)) → [x, y][i]? = some z → a.tmps[t]? = some (.int .i64 z) := fun t i z e hz => by
    obtain ⟨ρ, h⟩ := hA
    obtain ⟨u, h1, h2⟩ := (h _ _ hn).tmps.get t _ e
    have h2' : u = .int .i64 (σ i) := by simpa only [Rel, SI.den] using h2
    rw [h1, h2', hn.σ i z hz]
  have hN : Tryz.f13.ntmps = 94 := by kernel_rfl
  have hbody : Tryz.f13.body = some body13 := by kernel_rfl
  refine wp_seqP (by kernel_rfl) (r5 (R := fun p b w2 => At W (Ci [] []) 2 ⟨[(0, .ptr 0 0), (1, .bool (.lit true))], Sb.blks⟩ [x, y] [] (fun _ => FS.no) ⟨#[p, b], []⟩ w2) h3 h4 hsz ?_ fun p b w2 a' hR k1 k2 k3 k4 k5 k6 => ?_)
  · refine Calls.mono (Cut.callAt (C := Ci [] []) (C0 := Ci [] []) (f := 13) (fn := Tryz.f13) (c := body13) (avs := [av5, av6]) (us := [u3, u4]) Tryz.func13 hbody hA (R := fun e w' => ∃ u, e = .returned u ∧ At W (Ci [] []) 1 S13 (θ0.map (·.den (Env.of σ (fun _ => false) fun _ => FS.no))) [] (fun _ => FS.no) ⟨#[u], []⟩ w') (fun j v h => ?_) rfl (by rw [hN]; decide) (by rw [hN]; decide) fun a9 h9 => ?_) fun e w' ⟨u, he, hu⟩ => ⟨u, he, sys hn (back hn hu)⟩
    · match j, h with
      | 0, h => injection h with h; subst h; exact ⟨5, u3, rfl, h3, rfl⟩
      | 1, h => injection h with h; subst h; exact ⟨6, u4, rfl, h4, rfl⟩
    · rw [hN] at h9
      exact Cut.run_endV (C := Ci [] []) h9 hn e0 (by decide) code13_ok run_h1
  · refine hq a' w2 (Cut.swap hR (sl := [(0, .int .i64 (.var 0)), (1, .int .i64 (.var 1)), (7, .ptr 0 0), (8, .bool (.lit true))]) (k2.trans hdf) k1 (by decide) fun t v hm => ?_)
    simp only [List.mem_cons, Prod.mk.injEq, List.not_mem_nil, or_false] at hm
    rcases hm with ⟨rfl, rfl⟩ | ⟨rfl, rfl⟩ | ⟨rfl, rfl⟩ | ⟨rfl, rfl⟩
    · exact ⟨by decide, _, k3.trans (num 0 0 x rfl rfl), .inr fun E hE hs => by simp only [Rel, SI.den]; rw [hs 0 x rfl]⟩
    · exact ⟨by decide, _, k4.trans (num 1 1 y rfl rfl), .inr fun E hE hs => by simp only [Rel, SI.den]; rw [hs 1 y rfl]⟩
    · exact ⟨by decide, p, k5, .inl ⟨0, rfl, rfl⟩⟩
    · exact ⟨by decide, b, k6, .inl ⟨1, rfl, rfl⟩⟩
theorem holds (before raises : Int) (w : World) : Calls Tryz.prog 6 #[.int .i64 before, .int .i64 raises] w fun e w' => e = .returned (.bool true) ∧ Below w.heap.size w w' := by
  have hN : Tryz.f6.ntmps = 103 := by kernel_rfl
  have hbody : Tryz.f6.body = some body := by kernel_rfl
  refine call_at (C := Ci [] []) (σl := [before, raises]) (βl := []) (fs := fun _ => FS.no) (f := 6) (fn := Tryz.f6) (c := body) Tryz.func6 hbody (args := [.int .i64 (.var 0), .int .i64 (.var 1)]) (us := [.int .i64 before, .int .i64 raises]) (fun σ β hn => ?_) (FOk.none rfl w _ _) rfl (by rw [hN]; decide) (by rw [hN]; decide) fun a hA => ?_
  · have : AV.valEs (Env.of σ β fun _ => FS.no) [.int .i64 (.var 0), .int .i64 (.var 1)] = some [.int .i64 (σ 0), .int .i64 (σ 1)] := rfl
    rw [this, hn.σ 0 before rfl, hn.σ 1 raises rfl]
  rw [hN] at hA
  generalize hs0 : (fun j => ([before, raises][j]?).getD 0 : Nat → Int) = σ0
  have hn0 : Names [before, raises] [] σ0 (fun _ => false) := ⟨fun j v h => by rw [← hs0]; show ([before, raises][j]?).getD 0 = v; rw [h]; rfl, fun j v h => by simp at h⟩
  have hb := modI_range (Env.of σ0 (fun _ => false) fun _ => FS.no) 0 5 (by decide) (by decide)
  have hr := modI_range (Env.of σ0 (fun _ => false) fun _ => FS.no) 1 4 (by decide) (by decide)
  obtain ⟨b, hbv⟩ := Int.eq_ofNat_of_zero_le hb.1
  obtain ⟨r, hrv⟩ := Int.eq_ofNat_of_zero_le hr.1
  have keep : ∀ {S a w'}, At w (Ci [] []) 103 S (θ0.map (·.den (Env.of σ0 (fun _ => false) fun _ => FS.no))) (([] : List SB).map (·.den (Env.of σ0 (fun _ => false) fun _ => FS.no))) (fun _ => FS.no) a w' → At w (Ci [] []) 103 S [before, raises] [] (fun _ => FS.no) a w' := fun h => h.eq (by subst hs0; rfl) rfl
  have none0 : ∀ {K}, (∀ p ∈ K, p.1.den (Env.of σ0 (fun _ => false) fun _ => FS.no) = p.2) → Env0 (Ci K []) (Ci [] []) σ0 (fun _ => false) fun _ => FS.no := fun h => env0 (fun f hf => by cases hf) h
  have nn : Names [] [] σ0 (fun _ => false) := ⟨fun j v h => by simp at h, fun j v h => by simp at h⟩
  refine run_parts (C := Ci [] facts) hA hn0 (env0 facts_ok fun p hp => by cases hp) (by decide) code_ok run_a fun a3 w3 hA3 => ?_
  refine head hn0 (keep hA3) fun a2 w2 hA2 => ?_
  refine run_parts (C := Ci [] []) (k := 5) (c := dropS 5 body) hA2 hn0 (none0 fun p hp => by cases hp) (by decide) (codeOk_drop (k := 5) code_ok) run_c fun a1 w1 hA1 => ?_
  have hA1 := keep hA1
  show (dropS 10 body).wp _ _ _ _
  -- the raises, and the rest
  have rest : ∀ {S R a2 w2}, At w (Ci [] []) 103 S [before, raises] [] (fun _ => FS.no) a2 w2 → (∀ q, q < 4 → okNorm LR1 [] [] 103 R (runS (runA (Ci (kR q) []) 300) 1 (dropS 11 body) S.st) = true) → okEnd (Ci [] []) Tryz.f6 (.bool (.lit true)) (runA (Ci [] []) 300 (dropS 12 body) R.st) = true →
      (dropS 11 body).wp (Ci [] []).P (bodyPostD (Ci [] []).P Tryz.f6 fun e w' => e = .returned (.bool true) ∧ Below w.heap.size w w') a2 w2 := fun hA2 h1 h2 => by
    refine run_parts (C := Ci (kR r) []) hA2 hn0 (none0 (kR_ok hrv (by omega))) (by decide) (codeOk_drop code_ok) (h1 r (by omega)) fun a3 w3 hA3 => ?_
    exact run_end (C := Ci [] []) hA3 nn (none0 fun p hp => by cases hp) (by decide) (codeOk_drop (k := 12) code_ok) h2 rfl rfl
  have q4 : ∀ {p : Nat → Prop}, p 0 → p 1 → p 2 → p 3 → ∀ q, q < 4 → p q := fun h0 h1 h2 h3 q hq => by
    have : q = 0 ∨ q = 1 ∨ q = 2 ∨ q = 3 := by omega
    rcases this with rfl | rfl | rfl | rfl
    · exact h0
    · exact h1
    · exact h2
    · exact h3
  have one : ∀ {S}, okNorm (if b = 0 then LR1 else LS2) θ0 [] 103 S (runS (runA (Ci (kB b) []) 300) 1 (dropS 10 body) S1.st) = true → (∀ {a2 w2}, At w (Ci [] []) 103 S [before, raises] [] (fun _ => FS.no) a2 w2 → (dropS 11 body).wp (Ci [] []).P (bodyPostD (Ci [] []).P Tryz.f6 fun e w' => e = .returned (.bool true) ∧ Below w.heap.size w w') a2 w2) → (dropS 10 body).wp (Ci [] []).P (bodyPostD (Ci [] []).P Tryz.f6 fun e w' => e = .returned (.bool true) ∧ Below w.heap.size w w') a1 w1 := fun h1 h2 =>
    run_parts (C := Ci (kB b) []) hA1 hn0 (none0 (kB_ok hbv)) (by decide) (codeOk_drop code_ok) h1 fun a2 w2 hA2 => h2 (keep hA2)
  have : b = 0 ∨ b = 1 ∨ b = 2 ∨ b = 3 ∨ b = 4 := by omega
  rcases this with rfl | rfl | rfl | rfl | rfl
  · exact one run_b0 fun h => rest h (q4 run_r10 run_r11 run_r12 run_r13) run_e1
  · exact one run_b1 fun h => rest h (q4 run_r20 run_r21 run_r22 run_r23) run_e2
  · exact one run_b2 fun h => rest h (q4 run_r20 run_r21 run_r22 run_r23) run_e2
  · exact one run_b3 fun h => rest h (q4 run_r20 run_r21 run_r22 run_r23) run_e2
  · exact one run_b4 fun h => rest h (q4 run_r20 run_r21 run_r22 run_r23) run_e2
end Irq
end Go.Proofs.YtjebljnifeoiaaaGreat.Vm.Top
