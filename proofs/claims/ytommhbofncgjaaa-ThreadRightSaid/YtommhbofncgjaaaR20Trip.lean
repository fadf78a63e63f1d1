/- ThreadTrip over the machine. No condition but those each theorem names. -/
import Derived.Test.YtommhbofncgjaaaR20Asks
import Derived.Test.YtommhbofncgjaaaVmRow
namespace Go.Proofs.Ytommhbofncgjaaa.Vm.R20
open Go Go.Proofs.Ytommhbofncgjaaa.Vm Go.Proofs Go.RowKit
set_option maxRecDepth 1000000
set_option linter.unusedVariables false
set_option linter.unusedSimpArgs false
/-- The cell i of eight, of which n came in as slice 0. -/
noncomputable def regA (n i : Nat) : SI := ife (Nat.blt i n) (.elem 0 (.lit (.ofNat i)) 0) (.lit 0)
noncomputable def regsA (n : Nat) : AV := .agg [.int .u64 (regA n 0), .int .u64 (regA n 1), .int .u64 (regA n 2), .int .u64 (regA n 3), .int .u64 (regA n 4), .int .u64 (regA n 5), .int .u64 (regA n 6), .int .u64 (regA n 7)]
/-- What is known of the slice's length: it is n, or eight and more. -/
noncomputable def lenK (n : Nat) : List (Atom × Bool) := [(.lt (.lit 0) (.len 0), Nat.blt 0 n), (.lt (.lit 1) (.len 0), Nat.blt 1 n), (.lt (.lit 2) (.len 0), Nat.blt 2 n), (.lt (.lit 3) (.len 0), Nat.blt 3 n), (.lt (.lit 4) (.len 0), Nat.blt 4 n), (.lt (.lit 5) (.len 0), Nat.blt 5 n), (.lt (.lit 6) (.len 0), Nat.blt 6 n), (.lt (.lit 7) (.len 0), Nat.blt 7 n)]
theorem lenK_ok (E : Env) {n : Nat} (h : n = min (E.fs 0).len 8) : ∀ p ∈ lenK n, p.1.den E = p.2 := by
  intro p hp
  have key : ∀ i : Nat, i < 8 → (Atom.lt (.lit (i : Int)) (.len 0)).den E = Nat.blt i n := fun i hi => by
    show decide ((i : Int) < ((E.fs 0).len : Int)) = _
    rw [Bool.eq_iff_iff, decide_eq_true_eq, Nat.blt_eq]
    omega
  simp only [lenK, List.mem_cons, List.not_mem_nil, or_false] at hp
  rcases hp with rfl | rfl | rfl | rfl | rfl | rfl | rfl | rfl
  · exact key 0 (by omega)
  · exact key 1 (by omega)
  · exact key 2 (by omega)
  · exact key 3 (by omega)
  · exact key 4 (by omega)
  · exact key 5 (by omega)
  · exact key 6 (by omega)
  · exact key 7 (by omega)
theorem block_cases {t : Th} (h : refT t = 0) (hs : t.state = 1) (s o b : Int) (c : Bool) : (BlockT t s o b c = (blockT t s o b c, 0) ∧ refT (blockT t s o b c) = 0 ∧ s ≠ 0 ∧ s ≠ 1) ∨ ∃ e, e ≠ 0 ∧ BlockT t s o b c = (Th.zero, e) := by
  unfold BlockT
  rw [if_pos h, if_pos hs]
  by_cases h1 : s = 0 ∨ s = 1
  · rw [if_pos h1]; exact .inr ⟨8, by decide, rfl⟩
  · rw [if_neg h1]
    by_cases h2 : refT (blockT t s o b c) = 0
    · rw [if_pos h2]; exact .inl ⟨rfl, h2, by omega, by omega⟩
    · rw [if_neg h2]; exact .inr ⟨_, h2, rfl⟩
namespace Trip
noncomputable def L : SI := modI 0 8
noncomputable def D : SI := modI 1 4
noncomputable def t0 : AV := Tn (.lit 0) (.lit (-1)) L D
noncomputable def t1 : AV := Tn (.lit 1) (.lit (-1)) L D
noncomputable def tb : AV := .agg [.int .i64 (.var 2), .int .i64 (.var 3), .int .u64 (.var 4), .bool (.var 5), .int .i64 (.lit (-1)), .int .i64 L, .int .i64 D, .int .i64 (.lit 0), .int .u64 (.lit 0), .int .u64 (.lit 0), .int .u64 (.lit 0), .int .u64 (.lit 0), .int .u64 (.lit 0), .int .u64 (.lit 0), .int .u64 (.lit 0), .int .u64 (.lit 0)]
noncomputable def tw (n : Nat) : AV := .agg [.int .i64 (.lit 1), .int .i64 (.lit 0), .int .u64 (.lit 0), .bool (.lit false), .int .i64 (.lit (-1)), .int .i64 L, .int .i64 D, .int .i64 (.lit 0), .int .u64 (regA n 0), .int .u64 (regA n 1), .int .u64 (regA n 2), .int .u64 (regA n 3), .int .u64 (regA n 4), .int .u64 (regA n 5), .int .u64 (regA n 6), .int .u64 (regA n 7)]
noncomputable def head : List Fact := [⟨8, [], .bool (.lit true)⟩, ⟨9, [.int .i64 L, .int .i64 D], pairA t0 (.lit 0)⟩, ⟨17, [t0], pairA t1 (.lit 0)⟩]
noncomputable def bargs : List AV := [t1, .int .i64 (.var 2), .int .i64 (.var 3), .int .u64 (.var 4), .bool (.var 5)]
noncomputable def good (n : Nat) : List Fact := ⟨19, bargs, pairA tb (.lit 0)⟩ :: ⟨21, [tb, regsA n], pairA (tw n) (.lit 0)⟩ :: ⟨15, [tb], t0⟩ :: head
noncomputable def bad : List Fact := ⟨19, bargs, pairA zeroA (.var 20)⟩ :: head
noncomputable def Cg (n : Nat) : Ctx := ⟨C0.P, C0.ty, C0.fn, [], [[some .u64]], good n, []⟩
noncomputable def Cb : Ctx := ⟨C0.P, C0.ty, C0.fn, [], [[some .u64]], bad, []⟩
noncomputable def args : List AV := [.int .i64 (.var 0), .int .i64 (.var 1), .agg [.int .i64 (.var 2), .int .i64 (.var 3), .int .u64 (.var 4), .bool (.var 5), .int .i64 (.var 6), .int .i64 (.var 7), .int .i64 (.var 8)], .fsl 0]
theorem run_bad : treeOk Cb 300 7 args (.leaf (.bool (.lit true))) [(.eq (.var 20) (.lit 0), false)] = true := by kernel_rfl
theorem run0 : treeOk (Cg 0) 300 7 args (.leaf (.bool (.lit true))) (lenK 0) = true := by kernel_rfl
theorem run1 : treeOk (Cg 1) 300 7 args (.leaf (.bool (.lit true))) (lenK 1) = true := by kernel_rfl
theorem run2 : treeOk (Cg 2) 300 7 args (.leaf (.bool (.lit true))) (lenK 2) = true := by kernel_rfl
theorem run3 : treeOk (Cg 3) 300 7 args (.leaf (.bool (.lit true))) (lenK 3) = true := by kernel_rfl
theorem run4 : treeOk (Cg 4) 300 7 args (.leaf (.bool (.lit true))) (lenK 4) = true := by kernel_rfl
theorem run5 : treeOk (Cg 5) 300 7 args (.leaf (.bool (.lit true))) (lenK 5) = true := by kernel_rfl
theorem run6 : treeOk (Cg 6) 300 7 args (.leaf (.bool (.lit true))) (lenK 6) = true := by kernel_rfl
theorem run7 : treeOk (Cg 7) 300 7 args (.leaf (.bool (.lit true))) (lenK 7) = true := by kernel_rfl
theorem run8 : treeOk (Cg 8) 300 7 args (.node (.lt (.lit 8) (.len 0)) (.leaf (.bool (.lit true))) (.leaf (.bool (.lit true)))) (lenK 8) = true := by kernel_rfl
theorem run : ∀ n, n ≤ 8 → ∃ dt, treeOk (Cg n) 300 7 args dt (lenK n) = true ∧ ∀ E, dt.at E = .bool (.lit true)
  | 0, _ => ⟨_, run0, fun _ => rfl⟩ | 1, _ => ⟨_, run1, fun _ => rfl⟩ | 2, _ => ⟨_, run2, fun _ => rfl⟩ | 3, _ => ⟨_, run3, fun _ => rfl⟩ | 4, _ => ⟨_, run4, fun _ => rfl⟩ | 5, _ => ⟨_, run5, fun _ => rfl⟩ | 6, _ => ⟨_, run6, fun _ => rfl⟩ | 7, _ => ⟨_, run7, fun _ => rfl⟩
  | 8, _ => ⟨_, run8, fun E => by simp only [DT.at]; split <;> rfl⟩
  | n + 9, h => by omega
def sig (level domain s o b x y z e : Int) (i : Nat) : Int := match i with
  | 0 => level | 1 => domain | 2 => s | 3 => o | 4 => b | 6 => x | 7 => y | 8 => z | _ => e
section
variable (level domain s o b x y z e : Int) (c : Bool) (fs : Nat → FS)
noncomputable def En : Env := Env.of (sig level domain s o b x y z e) (fun _ => c) fs
def nS (st l d : Int) : Th := ⟨st, 0, 0, false, -1, l, d, 0, 0, 0, 0, 0, 0, 0, 0, 0⟩
theorem ref_s {st l d : Int} (hl : 0 ≤ l ∧ l < 8) (hd : 0 ≤ d ∧ d < 4) (hs : 0 ≤ st ∧ st ≤ 5) : refT (nS st l d) = 0 := by
  unfold refT nS; simp; omega
theorem ans_head (K : List (Atom × Bool)) (C : Ctx) (hP : C.P = Try.prog) (f : Fact) (hf : f ∈ head) (H : Heap) : CallOk (C.more K) (Ext (En level domain s o b x y z e c fs)) f.f f.args H f.res H := by
  have hl : 0 ≤ L.den (En level domain s o b x y z e c fs) ∧ L.den (En level domain s o b x y z e c fs) < 8 := modI_range _ 0 8 (by decide) (by decide)
  have hd : 0 ≤ D.den (En level domain s o b x y z e c fs) ∧ D.den (En level domain s o b x y z e c fs) < 4 := modI_range _ 1 4 (by decide) (by decide)
  obtain ⟨P, ty, fn, know, fk, facts, silent⟩ := C
  have hP' : P = Try.prog := hP
  subst hP'
  simp only [head, List.mem_cons, List.not_mem_nil, or_false] at hf
  rcases hf with rfl | rfl | rfl
  · exact fact_val (C := Ctx.more ⟨Try.prog, ty, fn, know, fk, facts, silent⟩ K) hprog (fn := Try.f8) (c := _) Try.func8 rfl rfl rfl rfl rfl ans_works H
  · have h := ans_new (L.den (En level domain s o b x y z e c fs)) (D.den (En level domain s o b x y z e c fs))
    rw [show NewT (L.den (En level domain s o b x y z e c fs)) (D.den (En level domain s o b x y z e c fs)) = (nS 0 (L.den (En level domain s o b x y z e c fs)) (D.den (En level domain s o b x y z e c fs)), 0) by unfold NewT; rw [if_neg (by omega)]; rfl] at h
    exact fact_val (C := Ctx.more ⟨Try.prog, ty, fn, know, fk, facts, silent⟩ K) hprog (fn := Try.f9) (c := _) Try.func9 rfl rfl rfl rfl rfl h H
  · have h := ans_start (nS 0 (L.den (En level domain s o b x y z e c fs)) (D.den (En level domain s o b x y z e c fs))) (Int.le_refl 0)
    rw [show StartT (nS 0 (L.den (En level domain s o b x y z e c fs)) (D.den (En level domain s o b x y z e c fs))) = (nS 1 (L.den (En level domain s o b x y z e c fs)) (D.den (En level domain s o b x y z e c fs)), 0) by unfold StartT; rw [if_pos (ref_s hl hd (by omega))]; rfl] at h
    exact fact_val (C := Ctx.more ⟨Try.prog, ty, fn, know, fk, facts, silent⟩ K) hprog (fn := Try.f17) (c := _) Try.func17 rfl rfl rfl rfl rfl h H
end
theorem call (level domain s o b x y z : Int) (c : Bool) (v : Value) (w : World) (hb : 0 ≤ b) (hv : SlOk w v [some .u64]) :
    Calls Try.prog 7 #[.int .i64 level, .int .i64 domain, .agg #[.int .i64 s, .int .i64 o, .int .u64 b, .bool c, .int .i64 x, .int .i64 y, .int .i64 z], v] w fun e w' => e = .returned (.bool true) ∧ Below w.heap.size w w' := by
  obtain ⟨f1, f2, f3, f4, f5⟩ := hv.fok
  have hfok : ∀ e (C : Ctx), C.fk = [[some .u64]] → FOk (fun r => r < w.heap.size) w C (En level domain s o b x y z e c fun i => if i = 0 then fsOf w v 1 else FS.no) := fun e C hC => by
    refine ⟨fun i => ?_, fun i ks hk => ?_, fun i ks q j ok hk => ?_⟩
    · show (if i = 0 then fsOf w v 1 else FS.no).v.oneCell' = true
      split
      · exact f1
      · rfl
    · rw [hC, nth_eq] at hk
      cases i with
      | zero => simp at hk; subst hk; exact ⟨f2, f4⟩
      | succ i => simp at hk
    · rw [hC, nth_eq] at hk
      cases i with
      | zero => simp at hk; subst hk; exact f5 q j ok
      | succ i => simp at hk
  have hv1 : (fsOf w v 1).v = v := f3
  have key : ∀ e, 0 ≤ L.den (En level domain s o b x y z e c fun i => if i = 0 then fsOf w v 1 else FS.no) ∧ L.den (En level domain s o b x y z e c fun i => if i = 0 then fsOf w v 1 else FS.no) < 8 := fun e => modI_range _ 0 8 (by decide) (by decide)
  have key2 : ∀ e, 0 ≤ D.den (En level domain s o b x y z e c fun i => if i = 0 then fsOf w v 1 else FS.no) ∧ D.den (En level domain s o b x y z e c fun i => if i = 0 then fsOf w v 1 else FS.no) < 4 := fun e => modI_range _ 1 4 (by decide) (by decide)
  have hus : ∀ e, AV.valEs (En level domain s o b x y z e c fun i => if i = 0 then fsOf w v 1 else FS.no) args = some [.int .i64 level, .int .i64 domain, .agg #[.int .i64 s, .int .i64 o, .int .u64 b, .bool c, .int .i64 x, .int .i64 y, .int .i64 z], v] := fun e => by
    have h : AV.valEs (En level domain s o b x y z e c fun i => if i = 0 then fsOf w v 1 else FS.no) args = some [.int .i64 level, .int .i64 domain, .agg #[.int .i64 s, .int .i64 o, .int .u64 b, .bool c, .int .i64 x, .int .i64 y, .int .i64 z], (fsOf w v 1).v] := rfl
    rw [h, hv1]
  have hbl := fun e => ans_block (nS 1 (L.den (En level domain s o b x y z e c fun i => if i = 0 then fsOf w v 1 else FS.no)) (D.den (En level domain s o b x y z e c fun i => if i = 0 then fsOf w v 1 else FS.no))) s o b c (Int.le_refl 0) hb
  have hL : ∀ e e', L.den (En level domain s o b x y z e c fun i => if i = 0 then fsOf w v 1 else FS.no) = L.den (En level domain s o b x y z e' c fun i => if i = 0 then fsOf w v 1 else FS.no) := fun e e' => rfl
  rcases block_cases (ref_s (st := 1) (key 0) (key2 0) (by omega)) rfl s o b c with ⟨hB, hr, hs0, hs1⟩ | ⟨e, he, hB⟩
  · have hn : min (fsOf w v 1).len 8 ≤ 8 := Nat.min_le_right _ _
    obtain ⟨dt, hrun, hdt⟩ := run _ hn
    refine tree_at (C := Cg (min (fsOf w v 1).len 8)) (σ := sig level domain s o b x y z 0) (β := fun _ => c) (fs := fun i => if i = 0 then fsOf w v 1 else FS.no) (fn := Try.f7) (c := _) ⟨hC.ty, hC.fn⟩ hprog hsil (fun K f hf H => ?_) Try.func7 rfl (hus 0) (hfok 0 _ rfl) dt _ hrun (lenK_ok _ rfl) _ (by rw [hdt]; rfl)
    have hf' : f ∈ good (min (fsOf w v 1).len 8) := hf
    rw [good, List.mem_cons, List.mem_cons, List.mem_cons] at hf'
    have hreg : ∀ i, (regA (min (fsOf w v 1).len 8) i).den (En level domain s o b x y z 0 c fun i => if i = 0 then fsOf w v 1 else FS.no) = (regA (min (fsOf w v 1).len 8) i).den (En level domain s o b x y z 0 c fun i => if i = 0 then fsOf w v 1 else FS.no) := fun _ => rfl
    rcases hf' with rfl | rfl | rfl | hf'
    · have h := hbl 0
      rw [hB] at h
      exact fact_val (C := (Cg (min (fsOf w v 1).len 8)).more K) hprog (fn := Try.f19) (c := _) Try.func19 rfl rfl rfl rfl rfl h H
    · have h := ans_wake (blockT (nS 1 (L.den (En level domain s o b x y z 0 c fun i => if i = 0 then fsOf w v 1 else FS.no)) (D.den (En level domain s o b x y z 0 c fun i => if i = 0 then fsOf w v 1 else FS.no))) s o b c) hb (fun i => (regA (min (fsOf w v 1).len 8) i).den (En level domain s o b x y z 0 c fun i => if i = 0 then fsOf w v 1 else FS.no))
      rw [show WakeT (blockT (nS 1 (L.den (En level domain s o b x y z 0 c fun i => if i = 0 then fsOf w v 1 else FS.no)) (D.den (En level domain s o b x y z 0 c fun i => if i = 0 then fsOf w v 1 else FS.no))) s o b c) (fun i => (regA (min (fsOf w v 1).len 8) i).den (En level domain s o b x y z 0 c fun i => if i = 0 then fsOf w v 1 else FS.no)) = (regsT (nS 1 (L.den (En level domain s o b x y z 0 c fun i => if i = 0 then fsOf w v 1 else FS.no)) (D.den (En level domain s o b x y z 0 c fun i => if i = 0 then fsOf w v 1 else FS.no))) (fun i => (regA (min (fsOf w v 1).len 8) i).den (En level domain s o b x y z 0 c fun i => if i = 0 then fsOf w v 1 else FS.no)), 0) by
        unfold WakeT; rw [if_pos hr, if_neg (by intro h; rcases h with h | h; exact hs0 h; exact hs1 h)]; rfl] at h
      refine fact_val (C := (Cg (min (fsOf w v 1).len 8)).more K) hprog (fn := Try.f21) (c := _) Try.func21 rfl ?_ ?_ (us := [.agg (blockT (nS 1 (L.den (En level domain s o b x y z 0 c fun i => if i = 0 then fsOf w v 1 else FS.no)) (D.den (En level domain s o b x y z 0 c fun i => if i = 0 then fsOf w v 1 else FS.no))) s o b c).cells, regsV _]) (u := pairV _) ?_ ?_ h H
      · rfl
      · rfl
      · rfl
      · rfl
    · have h := ans_stop (blockT (nS 1 (L.den (En level domain s o b x y z 0 c fun i => if i = 0 then fsOf w v 1 else FS.no)) (D.den (En level domain s o b x y z 0 c fun i => if i = 0 then fsOf w v 1 else FS.no))) s o b c) hb
      exact fact_val (C := (Cg (min (fsOf w v 1).len 8)).more K) hprog (fn := Try.f15) (c := _) Try.func15 rfl rfl rfl rfl rfl h H
    · exact ans_head level domain s o b x y z 0 c _ K _ rfl f hf' H
  · refine tree_at (C := Cb) (σ := sig level domain s o b x y z e) (β := fun _ => c) (fs := fun i => if i = 0 then fsOf w v 1 else FS.no) (fn := Try.f7) (c := _) ⟨hC.ty, hC.fn⟩ hprog hsil (fun K f hf H => ?_) Try.func7 rfl (hus e) (hfok e _ rfl) (.leaf (.bool (.lit true))) _ run_bad (fun p hp => ?_) _ rfl
    · have hf' : f ∈ bad := hf
      rw [bad, List.mem_cons] at hf'
      rcases hf' with rfl | hf'
      · have h := hbl e
        rw [hL e 0] at h
        have h2 : Ans Try.prog 19 [.agg (nS 1 (L.den (En level domain s o b x y z 0 c fun i => if i = 0 then fsOf w v 1 else FS.no)) (D.den (En level domain s o b x y z 0 c fun i => if i = 0 then fsOf w v 1 else FS.no))).cells, .int .i64 s, .int .i64 o, .int .u64 b, .bool c] (pairV (Th.zero, e)) := hB ▸ h
        exact fact_val (C := Cb.more K) hprog (fn := Try.f19) (c := _) Try.func19 rfl rfl rfl rfl rfl h2 H
      · exact ans_head level domain s o b x y z e c _ K _ rfl f hf' H
    · simp only [List.mem_singleton] at hp; subst hp
      exact decide_eq_false he
end Trip
end Go.Proofs.Ytommhbofncgjaaa.Vm.R20
