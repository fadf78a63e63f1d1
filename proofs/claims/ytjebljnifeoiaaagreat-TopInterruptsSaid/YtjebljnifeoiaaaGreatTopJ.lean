/- TopInterrupts over the machine: the law. No condition. -/
import Derived.Test.YtjebljnifeoiaaaGreatTopW
import Derived.Test.YtjebljnifeoiaaaGreatTopIa
import Derived.Test.YtjebljnifeoiaaaGreatTopIb
import Derived.Test.YtjebljnifeoiaaaGreatTopI2
import Derived.Test.YtjebljnifeoiaaaGreatTopI3
namespace Go.Proofs.YtjebljnifeoiaaaGreat.Vm.Top
open Go Go.Proofs.YtjebljnifeoiaaaGreat.Vm Go.Proofs Go.RowKit
set_option maxRecDepth 1000000
set_option linter.unusedVariables false
set_option linter.unusedSimpArgs false
namespace Irq
theorem modI_range (E : Env) (i : Nat) (k : Int) (h : 0 < k) (h2 : k ≤ 1000) : 0 ≤ (modI i k).den E ∧ (modI i k).den E < k := by
  simp only [modI, SI.den, IOp.den]
  have h0 : 0 ≤ IntKind.u64.wrap (E.σ i) := by
    simp only [IntKind.wrap, IntKind.signed, Bool.false_and, Bool.false_eq_true, if_false]
    exact Int.emod_nonneg _ (by decide)
  have h1 := Int.tmod_nonneg k h0
  have h3 := Int.tmod_lt_of_pos (IntKind.u64.wrap (E.σ i)) h
  generalize (IntKind.u64.wrap (E.σ i)).tmod k = m at h1 h3
  have hb : ((2 : Int) ^ IntKind.i64.bits) = 18446744073709551616 := by decide
  have hb2 : ((2 : Int) ^ (IntKind.i64.bits - 1)) = 9223372036854775808 := by decide
  have e : IntKind.i64.wrap m = m := by
    unfold IntKind.wrap
    simp only [hb, hb2]
    rw [Int.emod_eq_of_lt (by omega) (by omega)]
    simp
    omega
  rw [e]; exact ⟨h1, h3⟩
section
variable {σ : Nat → Int} {β : Nat → Bool} {fs : Nat → FS}
theorem env0 {K : List (Atom × Bool)} {F : List Fact} (hF : ∀ f ∈ F, ∀ (C : Ctx), C.P = Tryz.prog → ∀ H, CallOk C (Ext (Env.of σ β fs)) f.f f.args H f.res H) (hK : ∀ p ∈ K, p.1.den (Env.of σ β fs) = p.2) : Env0 (Ci K F) (Ci [] []) σ β fs :=
  ⟨⟨hC.ty, hC.fn⟩, hprog, hsil, fun f hf H => hF f hf _ rfl H, hK, rfl⟩
theorem facts_ok : ∀ f ∈ facts, ∀ (C : Ctx), C.P = Tryz.prog → ∀ H, CallOk C (Ext (Env.of σ β fs)) f.f f.args H f.res H := fun f hf C hP H => by
  obtain ⟨P, ty, fnn, know, fk, fc, si⟩ := C
  have hP' : P = Tryz.prog := hP
  subst hP'
  simp only [facts, List.mem_cons, List.not_mem_nil, or_false] at hf
  subst hf
  exact fact_val (C := ⟨Tryz.prog, ty, fnn, know, fk, fc, si⟩) hprog (fn := Tryz.f7) (c := _) Tryz.func7 rfl rfl rfl rfl rfl ans_works H
theorem kB_ok {b : Nat} (h : (modI 0 5).den (Env.of σ β fs) = b) : ∀ p ∈ kB b, p.1.den (Env.of σ β fs) = p.2 := fun p hp => by
  simp only [kB, List.mem_cons, List.not_mem_nil, or_false] at hp
  rcases hp with rfl | rfl | rfl | rfl | rfl
  all_goals
    simp only [Atom.den, h, SI.den]
    rw [Bool.eq_iff_iff, decide_eq_true_eq, Nat.blt_eq]
    omega
theorem kR_ok {r : Nat} (h : (modI 1 4).den (Env.of σ β fs) = r) (h4 : r < 4) : ∀ p ∈ kR r, p.1.den (Env.of σ β fs) = p.2 := fun p hp => by
  simp only [kR, List.mem_cons, List.not_mem_nil, or_false] at hp
  rcases hp with rfl | rfl | rfl | rfl | rfl
  case inl => simp only [Atom.den, h, SI.den]; rw [Bool.eq_iff_iff, decide_eq_true_eq]; simp
  case inr.inr.inr.inr => simp only [Atom.den, h, SI.den]; rw [Bool.eq_iff_iff, decide_eq_true_eq]; simp; omega
  all_goals
    simp only [Atom.den, h, SI.den]
    rw [Bool.eq_iff_iff, decide_eq_true_eq, Nat.blt_eq]
    omega
end
theorem holds (before raises : Int) (w : World) : Calls Tryz.prog 6 #[.int .i64 before, .int .i64 raises] w fun e w' => e = .returned (.bool true) ∧ Below w.heap.size w w' := by
  have hN : Tryz.f6.ntmps = 103 := by kernel_rfl
  have hbody : Tryz.f6.body = some body := by kernel_rfl
  refine call_at (C := Ci [] []) (σl := [before, raises]) (βl := []) (fs := fun _ => FS.no) (f := 6) (fn := Tryz.f6) (c := body) Tryz.func6 hbody (args := [.int .i64 (.var 0), .int .i64 (.var 1)]) (us := [.int .i64 before, .int .i64 raises]) (fun σ β hn => ?_) (FOk.none rfl w _ _) rfl (by rw [hN]; decide) (by rw [hN]; decide) fun a hA => ?_
  · have : AV.valEs (Env.of σ β fun _ => FS.no) [.int .i64 (.var 0), .int .i64 (.var 1)] = some [.int .i64 (σ 0), .int .i64 (σ 1)] := rfl
    rw [this, hn.σ 0 before rfl, hn.σ 1 raises rfl]
  rw [hN] at hA
  generalize hs0 : (fun j => ([before, raises][j]?).getD 0 : Nat → Int) = σ0
  have hn0 : Names [before, raises] [] σ0 (fun _ => false) := ⟨fun j v h => by rw [← hs0]; show ([before, raises][j]?).getD 0 = v; rw [h]; rfl, fun j v h => by simp at h⟩
  have hb := modI_range (Env.of σ0 (fun _ => false) fun _ => FS.no) 0 5 (by decide) (by decide)
  have hr := modI_range (Env.of σ0 (fun _ => false) fun _ => FS.no) 1 4 (by decide) (by decide)
  obtain ⟨b, hbv⟩ := Int.eq_ofNat_of_zero_le hb.1
  obtain ⟨r, hrv⟩ := Int.eq_ofNat_of_zero_le hr.1
  have keep : ∀ {S a w'}, At w (Ci [] []) 103 S (θ0.map (·.den (Env.of σ0 (fun _ => false) fun _ => FS.no))) (([] : List SB).map (·.den (Env.of σ0 (fun _ => false) fun _ => FS.no))) (fun _ => FS.no) a w' → At w (Ci [] []) 103 S [before, raises] [] (fun _ => FS.no) a w' := fun h => h.eq (by subst hs0; rfl) rfl
  have none0 : ∀ {K}, (∀ p ∈ K, p.1.den (Env.of σ0 (fun _ => false) fun _ => FS.no) = p.2) → Env0 (Ci K []) (Ci [] []) σ0 (fun _ => false) fun _ => FS.no := fun h => env0 (fun f hf => by cases hf) h
  have nn : Names [] [] σ0 (fun _ => false) := ⟨fun j v h => by simp at h, fun j v h => by simp at h⟩
  refine run_parts (C := Ci [] facts) hA hn0 (env0 facts_ok fun p hp => by cases hp) (by decide) code_ok run_a fun a3 w3 hA3 => ?_
  refine run_parts (C := Ci [] []) (keep hA3) hn0 (none0 fun p hp => by cases hp) (by decide) (codeOk_drop (k := 4) code_ok) run_b fun a2 w2 hA2 => ?_
  refine run_parts (C := Ci [] []) (k := 5) (c := dropS 5 body) (keep hA2) hn0 (none0 fun p hp => by cases hp) (by decide) (codeOk_drop (k := 5) code_ok) run_c fun a1 w1 hA1 => ?_
  have hA1 := keep hA1
  show (dropS 10 body).wp _ _ _ _
  -- the raises, and the rest
  have rest : ∀ {S R a2 w2}, At w (Ci [] []) 103 S [before, raises] [] (fun _ => FS.no) a2 w2 → (∀ q, q < 4 → okNorm LR1 [] [] 103 R (runS (runA (Ci (kR q) []) 300) 1 (dropS 11 body) S.st) = true) → okEnd (Ci [] []) Tryz.f6 (.bool (.lit true)) (runA (Ci [] []) 300 (dropS 12 body) R.st) = true →
      (dropS 11 body).wp (Ci [] []).P (bodyPostD (Ci [] []).P Tryz.f6 fun e w' => e = .returned (.bool true) ∧ Below w.heap.size w w') a2 w2 := fun hA2 h1 h2 => by
    refine run_parts (C := Ci (kR r) []) hA2 hn0 (none0 (kR_ok hrv (by omega))) (by decide) (codeOk_drop code_ok) (h1 r (by omega)) fun a3 w3 hA3 => ?_
    exact run_end (C := Ci [] []) hA3 nn (none0 fun p hp => by cases hp) (by decide) (codeOk_drop (k := 12) code_ok) h2 rfl rfl
  have q4 : ∀ {p : Nat → Prop}, p 0 → p 1 → p 2 → p 3 → ∀ q, q < 4 → p q := fun h0 h1 h2 h3 q hq => by
    have : q = 0 ∨ q = 1 ∨ q = 2 ∨ q = 3 := by omega
    rcases this with rfl | rfl | rfl | rfl
    · exact h0
    · exact h1
    · exact h2
    · exact h3
  have one : ∀ {S}, okNorm (if b = 0 then LR1 else LS2) θ0 [] 103 S (runS (runA (Ci (kB b) []) 300) 1 (dropS 10 body) S1.st) = true → (∀ {a2 w2}, At w (Ci [] []) 103 S [before, raises] [] (fun _ => FS.no) a2 w2 → (dropS 11 body).wp (Ci [] []).P (bodyPostD (Ci [] []).P Tryz.f6 fun e w' => e = .returned (.bool true) ∧ Below w.heap.size w w') a2 w2) → (dropS 10 body).wp (Ci [] []).P (bodyPostD (Ci [] []).P Tryz.f6 fun e w' => e = .returned (.bool true) ∧ Below w.heap.size w w') a1 w1 := fun h1 h2 =>
    run_parts (C := Ci (kB b) []) hA1 hn0 (none0 (kB_ok hbv)) (by decide) (codeOk_drop code_ok) h1 fun a2 w2 hA2 => h2 (keep hA2)
  have : b = 0 ∨ b = 1 ∨ b = 2 ∨ b = 3 ∨ b = 4 := by omega
  rcases this with rfl | rfl | rfl | rfl | rfl
  · exact one run_b0 fun h => rest h (q4 run_r10 run_r11 run_r12 run_r13) run_e1
  · exact one run_b1 fun h => rest h (q4 run_r20 run_r21 run_r22 run_r23) run_e2
  · exact one run_b2 fun h => rest h (q4 run_r20 run_r21 run_r22 run_r23) run_e2
  · exact one run_b3 fun h => rest h (q4 run_r20 run_r21 run_r22 run_r23) run_e2
  · exact one run_b4 fun h => rest h (q4 run_r20 run_r21 run_r22 run_r23) run_e2
end Irq
end Go.Proofs.YtjebljnifeoiaaaGreat.Vm.Top
