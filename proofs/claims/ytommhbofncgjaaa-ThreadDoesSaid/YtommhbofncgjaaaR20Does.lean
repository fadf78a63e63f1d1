/- ThreadDoes over the machine. No condition but those each theorem names. -/
import Derived.Test.YtommhbofncgjaaaR20Trip
namespace Go.Proofs.Ytommhbofncgjaaa.Vm.R20
open Go Go.Proofs.Ytommhbofncgjaaa.Vm Go.Proofs Go.RowKit
set_option maxRecDepth 1000000
set_option linter.unusedVariables false
set_option linter.unusedSimpArgs false
namespace Does
/-- A result: a thread and an error, named from k on. -/
noncomputable def R (k : Nat) : AV := .tup [.agg [.int .i64 (.var k), .int .i64 (.var (k + 1)), .int .u64 (.var (k + 2)), .bool (.var (k + 3)), .int .i64 (.var (k + 4)), .int .i64 (.var (k + 5)), .int .i64 (.var (k + 6)), .int .i64 (.var (k + 7)), .int .u64 (.var (k + 8)), .int .u64 (.var (k + 9)), .int .u64 (.var (k + 10)), .int .u64 (.var (k + 11)), .int .u64 (.var (k + 12)), .int .u64 (.var (k + 13)), .int .u64 (.var (k + 14)), .int .u64 (.var (k + 15))], .int .i64 (.var (k + 16))]
noncomputable def bargs : List AV := [T (.var 0), .int .i64 (.var 16), .int .i64 (.var 17), .int .u64 (.var 18), .bool (.var 19)]
noncomputable def nargs : List AV := [.int .i64 (.var 23), .int .i64 (.var 24)]
noncomputable def aargs : List AV := [T (.var 0), .int .i64 (.var 22)]
noncomputable def facts (n : Nat) : List Fact := [⟨13, [T (.var 0)], .int .i64 (.var 20)⟩, ⟨14, [T (.var 0)], .int .i64 (.var 20)⟩, ⟨9, nargs, R 100⟩, ⟨12, nargs, R 100⟩, ⟨17, [T (.var 0)], R 120⟩, ⟨18, [T (.var 0)], R 120⟩, ⟨19, bargs, R 140⟩, ⟨20, bargs, R 140⟩,
  ⟨21, [T (.var 0), regsA n], R 160⟩, ⟨22, [T (.var 0), regsA n], R 160⟩, ⟨10, aargs, R 180⟩, ⟨23, aargs, R 180⟩]
noncomputable def Cn (n : Nat) : Ctx := ⟨C0.P, C0.ty, C0.fn, [], [[some .u64]], facts n, []⟩
noncomputable def args : List AV := [T (.var 0), .agg [.int .i64 (.var 16), .int .i64 (.var 17), .int .u64 (.var 18), .bool (.var 19), .int .i64 (.var 22), .int .i64 (.var 23), .int .i64 (.var 24)], .fsl 0]
theorem run0 : treeOk (Cn 0) 300 4 args (.leaf (.bool (.lit true))) (lenK 0) = true := by kernel_rfl
theorem run1 : treeOk (Cn 1) 300 4 args (.leaf (.bool (.lit true))) (lenK 1) = true := by kernel_rfl
theorem run2 : treeOk (Cn 2) 300 4 args (.leaf (.bool (.lit true))) (lenK 2) = true := by kernel_rfl
theorem run3 : treeOk (Cn 3) 300 4 args (.leaf (.bool (.lit true))) (lenK 3) = true := by kernel_rfl
theorem run4 : treeOk (Cn 4) 300 4 args (.leaf (.bool (.lit true))) (lenK 4) = true := by kernel_rfl
theorem run5 : treeOk (Cn 5) 300 4 args (.leaf (.bool (.lit true))) (lenK 5) = true := by kernel_rfl
theorem run6 : treeOk (Cn 6) 300 4 args (.leaf (.bool (.lit true))) (lenK 6) = true := by kernel_rfl
theorem run7 : treeOk (Cn 7) 300 4 args (.leaf (.bool (.lit true))) (lenK 7) = true := by kernel_rfl
theorem run8 : treeOk (Cn 8) 300 4 args (.node (.lt (.lit 8) (.len 0)) (.leaf (.bool (.lit true))) (.leaf (.bool (.lit true)))) (lenK 8) = true := by kernel_rfl
theorem run : ∀ n, n ≤ 8 → ∃ dt, treeOk (Cn n) 300 4 args dt (lenK n) = true ∧ ∀ E, dt.at E = .bool (.lit true)
  | 0, _ => ⟨_, run0, fun _ => rfl⟩ | 1, _ => ⟨_, run1, fun _ => rfl⟩ | 2, _ => ⟨_, run2, fun _ => rfl⟩ | 3, _ => ⟨_, run3, fun _ => rfl⟩ | 4, _ => ⟨_, run4, fun _ => rfl⟩ | 5, _ => ⟨_, run5, fun _ => rfl⟩ | 6, _ => ⟨_, run6, fun _ => rfl⟩ | 7, _ => ⟨_, run7, fun _ => rfl⟩
  | 8, _ => ⟨_, run8, fun E => by simp only [DT.at]; split <;> rfl⟩
  | n + 9, h => by omega
def fld (p : Th × Int) (m : Nat) : Int := match m with
  | 0 => p.1.state | 1 => p.1.on | 2 => p.1.badge | 4 => p.1.caller | 5 => p.1.level | 6 => p.1.domain | 7 => p.1.pc | 8 => p.1.r0 | 9 => p.1.r1 | 10 => p.1.r2 | 11 => p.1.r3 | 12 => p.1.r4 | 13 => p.1.r5 | 14 => p.1.r6 | 15 => p.1.r7
  | _ => p.2
section
variable (t : Th) (s o b x y z : Int) (c : Bool) (r : Nat → Int) (fs : Nat → FS)
def res (j : Nat) : Th × Int := match j with
  | 0 => NewT y z | 1 => StartT t | 2 => BlockT t s o b c | 3 => WakeT t r | _ => AskT t x
def sgd (i : Nat) : Int := match i with
  | 16 => s | 17 => o | 18 => b | 20 => refT t | 22 => x | 23 => y | 24 => z
  | i => fld (res t s o b x y z c r ((i - 100) / 20)) ((i - 100) % 20)
def bgd (i : Nat) : Bool := match i with
  | 3 => t.calls | 19 => c
  | i => (res t s o b x y z c r ((i - 100) / 20)).1.calls
noncomputable def En : Env := Env.of (sg t (sgd t s o b x y z c r)) (bgd t s o b x y z c r) fs
theorem valR (j : Nat) (hj : j < 5) : AV.valE (En t s o b x y z c r fs) (R (100 + 20 * j)) = some (pairV (res t s o b x y z c r j)) := by
  match j, hj with
  | 0, _ => rfl
  | 1, _ => rfl
  | 2, _ => rfl
  | 3, _ => rfl
  | 4, _ => rfl
end
theorem call (t : Th) (s o b x y z : Int) (c : Bool) (v : Value) (w : World) (ht : 0 ≤ t.badge) (hb : 0 ≤ b) (hv : SlOk w v [some .u64]) :
    Calls Try.prog 4 #[.agg t.cells, .agg #[.int .i64 s, .int .i64 o, .int .u64 b, .bool c, .int .i64 x, .int .i64 y, .int .i64 z], v] w fun e w' => e = .returned (.bool true) ∧ Below w.heap.size w w' := by
  obtain ⟨f1, f2, f3, f4, f5⟩ := hv.fok
  have hv1 : (fsOf w v 1).v = v := f3
  have hn : min (fsOf w v 1).len 8 ≤ 8 := Nat.min_le_right _ _
  obtain ⟨dt, hrun, hdt⟩ := run _ hn
  generalize hN : min (fsOf w v 1).len 8 = n at hn hrun
  have hr : ∃ r : Nat → Int, ∀ E : Env, E.fs = (fun i => if i = 0 then fsOf w v 1 else FS.no) → ∀ i, (regA n i).den E = r i := by
    refine ⟨fun i => if Nat.blt i n = true then (fsOf w v 1).cell i 0 else 0, fun E hE i => ?_⟩
    unfold regA
    rw [ife_eq]
    by_cases h : Nat.blt i n = true
    · rw [if_pos h]
      show (E.fs 0).cell (Int.toNat (Int.ofNat i)) 0 = if Nat.blt i n = true then (fsOf w v 1).cell i 0 else 0
      rw [if_pos h, hE]; rfl
    · rw [if_neg h]
      show (0 : Int) = if Nat.blt i n = true then (fsOf w v 1).cell i 0 else 0
      rw [if_neg h]
  obtain ⟨r, hr⟩ := hr
  have hfok : FOk (fun r => r < w.heap.size) w (Cn n) (En t s o b x y z c r fun i => if i = 0 then fsOf w v 1 else FS.no) := by
    refine ⟨fun i => ?_, fun i ks hk => ?_, fun i ks q j ok hk => ?_⟩
    · show (if i = 0 then fsOf w v 1 else FS.no).v.oneCell' = true
      split
      · exact f1
      · rfl
    · rw [nth_eq] at hk
      cases i with
      | zero => simp [Cn] at hk; subst hk; exact ⟨f2, f4⟩
      | succ i => simp [Cn] at hk
    · rw [nth_eq] at hk
      cases i with
      | zero => simp [Cn] at hk; subst hk; exact f5 q j ok
      | succ i => simp [Cn] at hk
  have hus : AV.valEs (En t s o b x y z c r fun i => if i = 0 then fsOf w v 1 else FS.no) args = some [.agg t.cells, .agg #[.int .i64 s, .int .i64 o, .int .u64 b, .bool c, .int .i64 x, .int .i64 y, .int .i64 z], v] := by
    have h : AV.valEs (En t s o b x y z c r fun i => if i = 0 then fsOf w v 1 else FS.no) args = some [.agg t.cells, .agg #[.int .i64 s, .int .i64 o, .int .u64 b, .bool c, .int .i64 x, .int .i64 y, .int .i64 z], (fsOf w v 1).v] := rfl
    rw [h, hv1]
  have hrg : AV.valEs (En t s o b x y z c r fun i => if i = 0 then fsOf w v 1 else FS.no) [T (.var 0), regsA n] = some [.agg t.cells, regsV r] := by
    have h : AV.valEs (En t s o b x y z c r fun i => if i = 0 then fsOf w v 1 else FS.no) [T (.var 0), regsA n] = some [.agg t.cells, regsV fun i => (regA n i).den (En t s o b x y z c r fun i => if i = 0 then fsOf w v 1 else FS.no)] := rfl
    rw [h, show (fun i => (regA n i).den (En t s o b x y z c r fun i => if i = 0 then fsOf w v 1 else FS.no)) = r from funext fun i => hr _ rfl i]
  refine tree_at (C := Cn n) (σ := sg t (sgd t s o b x y z c r)) (β := bgd t s o b x y z c r) (fs := fun i => if i = 0 then fsOf w v 1 else FS.no) (fn := Try.f4) (c := _) ⟨hC.ty, hC.fn⟩ hprog hsil (fun K f hf H => ?_) Try.func4 rfl hus hfok dt _ hrun (lenK_ok _ hN.symm) _ (by rw [hdt]; rfl)
  have hf' : f ∈ facts n := hf
  simp only [facts, List.mem_cons, List.not_mem_nil, or_false] at hf'
  have vR := valR t s o b x y z c r fun i => if i = 0 then fsOf w v 1 else FS.no
  have hflat : flats [T (.var 0), regsA n] = true := rfl
  rcases hf' with rfl | rfl | rfl | rfl | rfl | rfl | rfl | rfl | rfl | rfl | rfl | rfl
  · exact fact_val (C := (Cn n).more K) hprog (fn := Try.f13) (c := _) Try.func13 rfl rfl rfl rfl rfl (ans_check t ht) H
  · exact fact_val (C := (Cn n).more K) hprog (fn := Try.f14) (c := _) Try.func14 rfl rfl rfl rfl rfl (ans_ref t ht) H
  · exact fact_val (C := (Cn n).more K) hprog (fn := Try.f9) (c := _) Try.func9 rfl rfl rfl rfl (vR 0 (by decide)) (ans_new y z) H
  · exact fact_val (C := (Cn n).more K) hprog (fn := Try.f12) (c := _) Try.func12 rfl rfl rfl rfl (vR 0 (by decide)) (ans_rnew y z) H
  · exact fact_val (C := (Cn n).more K) hprog (fn := Try.f17) (c := _) Try.func17 rfl rfl rfl rfl (vR 1 (by decide)) (ans_start t ht) H
  · exact fact_val (C := (Cn n).more K) hprog (fn := Try.f18) (c := _) Try.func18 rfl rfl rfl rfl (vR 1 (by decide)) (ans_rstart t ht) H
  · exact fact_val (C := (Cn n).more K) hprog (fn := Try.f19) (c := _) Try.func19 rfl rfl rfl rfl (vR 2 (by decide)) (ans_block t s o b c ht hb) H
  · exact fact_val (C := (Cn n).more K) hprog (fn := Try.f20) (c := _) Try.func20 rfl rfl rfl rfl (vR 2 (by decide)) (ans_rblock t s o b c ht hb) H
  · exact fact_val (C := (Cn n).more K) hprog (fn := Try.f21) (c := _) Try.func21 rfl hflat rfl hrg (vR 3 (by decide)) (ans_wake t ht r) H
  · exact fact_val (C := (Cn n).more K) hprog (fn := Try.f22) (c := _) Try.func22 rfl hflat rfl hrg (vR 3 (by decide)) (ans_rwake t ht r) H
  · exact fact_val (C := (Cn n).more K) hprog (fn := Try.f10) (c := _) Try.func10 rfl rfl rfl rfl (vR 4 (by decide)) (ans_ask t ht x) H
  · exact fact_val (C := (Cn n).more K) hprog (fn := Try.f23) (c := _) Try.func23 rfl rfl rfl rfl (vR 4 (by decide)) (ans_rask t ht x) H
end Does
end Go.Proofs.Ytommhbofncgjaaa.Vm.R20
