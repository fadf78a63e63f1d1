/- ThreadAsks over the machine. No condition but those each theorem names. -/
import Derived.Test.YtommhbofncgjaaaR20A
namespace Go.Proofs.Ytommhbofncgjaaa.Vm.R20
open Go Go.Proofs.Ytommhbofncgjaaa.Vm Go.Proofs Go.RowKit
set_option maxRecDepth 1000000
set_option linter.unusedVariables false
set_option linter.unusedSimpArgs false
noncomputable def modI (i : Nat) (k : Int) : SI := .app .conv .i64 (.app .rem .u64 (.app .conv .u64 (.var i) (.lit 0)) (.lit k)) (.lit 0)
theorem modI_range (E : Env) (i : Nat) (k : Int) (h : 0 < k) (h2 : k ≤ 1000) : 0 ≤ (modI i k).den E ∧ (modI i k).den E < k := by
  simp only [modI, SI.den, IOp.den]
  have h0 : 0 ≤ IntKind.u64.wrap (E.σ i) := by
    simp only [IntKind.wrap, IntKind.signed, Bool.false_and, Bool.false_eq_true, if_false]
    exact Int.emod_nonneg _ (by decide)
  have h1 := Int.tmod_nonneg k h0
  have h3 := Int.tmod_lt_of_pos (IntKind.u64.wrap (E.σ i)) h
  generalize (IntKind.u64.wrap (E.σ i)).tmod k = m at h1 h3
  have hb : ((2 : Int) ^ IntKind.i64.bits) = 18446744073709551616 := by decide
  have hb2 : ((2 : Int) ^ (IntKind.i64.bits - 1)) = 9223372036854775808 := by decide
  have e : IntKind.i64.wrap m = m := by
    unfold IntKind.wrap
    simp only [hb, hb2]
    rw [Int.emod_eq_of_lt h1 (by omega)]
    simp
    intro _
    omega
  rw [e]
  exact ⟨h1, h3⟩
noncomputable def Tn (st caller l d : SI) : AV := .agg [.int .i64 st, .int .i64 (.lit 0), .int .u64 (.lit 0), .bool (.lit false), .int .i64 caller, .int .i64 l, .int .i64 d, .int .i64 (.lit 0), .int .u64 (.lit 0), .int .u64 (.lit 0), .int .u64 (.lit 0), .int .u64 (.lit 0), .int .u64 (.lit 0), .int .u64 (.lit 0), .int .u64 (.lit 0), .int .u64 (.lit 0)]
noncomputable def pairA (t : AV) (e : SI) : AV := .tup [t, .int .i64 e]
noncomputable def zeroA : AV := Tn (.lit 0) (.lit 0) (.lit 0) (.lit 0)
namespace Asks
noncomputable def L : SI := modI 0 8
noncomputable def D : SI := modI 1 4
noncomputable def A : SI := modI 2 64
noncomputable def B : SI := modI 3 64
noncomputable def t (c : SI) : AV := Tn (.lit 0) c L D
noncomputable def facts : List Fact := [⟨8, [], .bool (.lit true)⟩, ⟨9, [.int .i64 L, .int .i64 D], pairA (t (.lit (-1))) (.lit 0)⟩, ⟨10, [t (.lit (-1)), .int .i64 A], pairA (t A) (.lit 0)⟩, ⟨10, [t A, .int .i64 B], pairA zeroA (.lit 4)⟩,
  ⟨10, [t A, .int .i64 (.lit (-1))], pairA (t (.lit (-1))) (.lit 0)⟩, ⟨10, [t (.lit (-1)), .int .i64 B], pairA (t B) (.lit 0)⟩]
noncomputable def C : Ctx := ⟨C0.P, C0.ty, C0.fn, [], [], facts, []⟩
theorem run : treeOk C 300 3 [.int .i64 (.var 0), .int .i64 (.var 1), .int .i64 (.var 2), .int .i64 (.var 3)] (.leaf (.bool (.lit true))) [] = true := by kernel_rfl
def sig (level domain a b : Int) (i : Nat) : Int := match i with
  | 0 => level | 1 => domain | 2 => a | _ => b
noncomputable def En (level domain a b : Int) : Env := Env.of (sig level domain a b) (fun _ => false) fun _ => FS.no
def nT (l d c : Int) : Th := ⟨0, 0, 0, false, c, l, d, 0, 0, 0, 0, 0, 0, 0, 0, 0⟩
theorem ref_n {l d c : Int} (hl : 0 ≤ l ∧ l < 8) (hd : 0 ≤ d ∧ d < 4) (hc : -1 ≤ c ∧ c ≤ 63) : refT (nT l d c) = 0 := by
  unfold refT nT; simp; omega
theorem ask_n {l d c k : Int} (hl : 0 ≤ l ∧ l < 8) (hd : 0 ≤ d ∧ d < 4) (hc : -1 ≤ c ∧ c ≤ 63) (hk : -1 ≤ k ∧ k ≤ 63) : Ans Try.prog 10 [.agg (nT l d c).cells, .int .i64 k] (pairV (if k ≠ -1 ∧ c ≠ -1 then (Th.zero, 4) else (nT l d k, 0))) := by
  have h := ans_ask (nT l d c) (Int.le_refl 0) k
  have e : AskT (nT l d c) k = (if k ≠ -1 ∧ c ≠ -1 then (Th.zero, 4) else (nT l d k, 0)) := by
    unfold AskT
    rw [if_pos (ref_n hl hd hc), if_neg (by omega)]
    rfl
  rw [e] at h; exact h
theorem holds (level domain a b : Int) : Ans Try.prog 3 [.int .i64 level, .int .i64 domain, .int .i64 a, .int .i64 b] (.bool true) := by
  have hl : 0 ≤ L.den (En level domain a b) ∧ L.den (En level domain a b) < 8 := modI_range (En level domain a b) 0 8 (by decide) (by decide)
  have hd : 0 ≤ D.den (En level domain a b) ∧ D.den (En level domain a b) < 4 := modI_range (En level domain a b) 1 4 (by decide) (by decide)
  have ha : 0 ≤ A.den (En level domain a b) ∧ A.den (En level domain a b) < 64 := modI_range (En level domain a b) 2 64 (by decide) (by decide)
  have hbb : 0 ≤ B.den (En level domain a b) ∧ B.den (En level domain a b) < 64 := modI_range (En level domain a b) 3 64 (by decide) (by decide)
  have hnew := ans_new (L.den (En level domain a b)) (D.den (En level domain a b))
  have e0 : NewT (L.den (En level domain a b)) (D.den (En level domain a b)) = (nT (L.den (En level domain a b)) (D.den (En level domain a b)) (-1), 0) := by
    unfold NewT; rw [if_neg (by omega)]; rfl
  refine tree_ok (C := C) (σ := sig level domain a b) (β := fun _ => false) (fs := fun _ => FS.no) (fn := Try.f3) (c := _) ⟨hC.ty, hC.fn⟩ hprog hsil (fun K x hx H => ?_) Try.func3 rfl rfl (fun w K => FOk.none rfl w _ _) (.leaf (.bool (.lit true))) [] run (by simp) _ rfl
  have hx' : x ∈ facts := hx
  simp only [facts, List.mem_cons, List.not_mem_nil, or_false] at hx'
  rcases hx' with rfl | rfl | rfl | rfl | rfl | rfl
  · exact fact_val (C := C.more K) hprog (fn := Try.f8) (c := _) Try.func8 rfl rfl rfl rfl rfl ans_works H
  · rw [e0] at hnew
    exact fact_val (C := C.more K) hprog (fn := Try.f9) (c := _) Try.func9 rfl rfl rfl rfl rfl hnew H
  · have h := ask_n (c := -1) (k := A.den (En level domain a b)) hl hd (by omega) (by omega)
    rw [if_neg (by simp)] at h
    exact fact_val (C := C.more K) hprog (fn := Try.f10) (c := _) Try.func10 rfl rfl rfl rfl rfl h H
  · have h := ask_n (c := A.den (En level domain a b)) (k := B.den (En level domain a b)) hl hd (by omega) (by omega)
    rw [if_pos (by omega)] at h
    exact fact_val (C := C.more K) hprog (fn := Try.f10) (c := _) Try.func10 rfl rfl rfl rfl rfl h H
  · have h := ask_n (c := A.den (En level domain a b)) (k := -1) hl hd (by omega) (by omega)
    rw [if_neg (by simp)] at h
    exact fact_val (C := C.more K) hprog (fn := Try.f10) (c := _) Try.func10 rfl rfl rfl rfl rfl h H
  · have h := ask_n (c := -1) (k := B.den (En level domain a b)) hl hd (by omega) (by omega)
    rw [if_neg (by simp)] at h
    exact fact_val (C := C.more K) hprog (fn := Try.f10) (c := _) Try.func10 rfl rfl rfl rfl rfl h H
theorem call (level domain a b : Int) (w : World) (_ : (Lit.int .i64 level).wf = true) (_ : (Lit.int .i64 domain).wf = true) (_ : (Lit.int .i64 a).wf = true) (_ : (Lit.int .i64 b).wf = true) :
    Calls Try.prog 3 #[.int .i64 level, .int .i64 domain, .int .i64 a, .int .i64 b] w fun e w' => e = .returned (.bool true) ∧ Below w.heap.size w w' := holds level domain a b w
end Asks
end Go.Proofs.Ytommhbofncgjaaa.Vm.R20
