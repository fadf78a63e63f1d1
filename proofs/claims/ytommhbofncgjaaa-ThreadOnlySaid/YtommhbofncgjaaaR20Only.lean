/- ThreadOnly over the machine. No condition but those each theorem names. -/
import Derived.Test.YtommhbofncgjaaaR20A
import Derived.Test.YtommhbofncgjaaaVmRow
namespace Go.Proofs.Ytommhbofncgjaaa.Vm.R20
open Go Go.Proofs.Ytommhbofncgjaaa.Vm Go.Proofs Go.RowKit
set_option maxRecDepth 1000000
set_option linter.unusedVariables false
set_option linter.unusedSimpArgs false
namespace Only
noncomputable def stillA (s : SI) : AV := .agg [.int .i64 s, .int .i64 (.lit 0), .int .u64 (.lit 0), .bool (.lit false), .int .i64 (.var 4), .int .i64 (.var 5), .int .i64 (.var 6), .int .i64 (.var 7), .int .u64 (.var 8), .int .u64 (.var 9), .int .u64 (.var 10), .int .u64 (.var 11), .int .u64 (.var 12), .int .u64 (.var 13), .int .u64 (.var 14), .int .u64 (.var 15)]
noncomputable def blockA : AV := .agg [.int .i64 (.lit 3), .int .i64 (.lit 3), .int .u64 (.lit 0), .bool (.lit false), .int .i64 (.var 4), .int .i64 (.var 5), .int .i64 (.var 6), .int .i64 (.var 7), .int .u64 (.var 8), .int .u64 (.var 9), .int .u64 (.var 10), .int .u64 (.var 11), .int .u64 (.var 12), .int .u64 (.var 13), .int .u64 (.var 14), .int .u64 (.var 15)]
noncomputable def wokenA : AV := .agg [.int .i64 (.lit 1), .int .i64 (.lit 0), .int .u64 (.lit 0), .bool (.lit false), .int .i64 (.var 4), .int .i64 (.var 5), .int .i64 (.var 6), .int .i64 (.var 7), .int .u64 (.lit 0), .int .u64 (.lit 0), .int .u64 (.lit 0), .int .u64 (.lit 0), .int .u64 (.lit 0), .int .u64 (.lit 0), .int .u64 (.lit 0), .int .u64 (.lit 0)]
noncomputable def zA : AV := .agg [.int .i64 (.lit 0), .int .i64 (.lit 0), .int .u64 (.lit 0), .bool (.lit false), .int .i64 (.lit 0), .int .i64 (.lit 0), .int .i64 (.lit 0), .int .i64 (.lit 0), .int .u64 (.lit 0), .int .u64 (.lit 0), .int .u64 (.lit 0), .int .u64 (.lit 0), .int .u64 (.lit 0), .int .u64 (.lit 0), .int .u64 (.lit 0), .int .u64 (.lit 0)]
noncomputable def pr (t : AV) (e : SI) : AV := .tup [t, .int .i64 e]
noncomputable def args (s : SI) : List AV := [T s, .agg [.int .i64 (.var 30), .int .i64 (.var 31), .int .u64 (.var 32), .bool (.var 33), .int .i64 (.var 34), .int .i64 (.var 35), .int .i64 (.var 36)]]
noncomputable def facts (s : Int) (st bl wk : AV × SI) : List Fact := [⟨8, [], .bool (.lit true)⟩, ⟨13, [T (.lit s)], .int .i64 (.lit 0)⟩, ⟨17, [T (.lit s)], pr st.1 st.2⟩, ⟨19, [T (.lit s), .int .i64 (.lit 3), .int .i64 (.lit 3), .int .u64 (.lit 0), .bool (.lit false)], pr bl.1 bl.2⟩,
  ⟨21, [T (.lit s), .agg [.int .u64 (.lit 0), .int .u64 (.lit 0), .int .u64 (.lit 0), .int .u64 (.lit 0), .int .u64 (.lit 0), .int .u64 (.lit 0), .int .u64 (.lit 0), .int .u64 (.lit 0)]], pr wk.1 wk.2⟩, ⟨13, [stillA (.lit 0)], .int .i64 (.lit 0)⟩]
noncomputable def no : AV × SI := (zA, .lit 8)
noncomputable def Cs (s : Int) (st bl wk : AV × SI) : Ctx := ⟨C0.P, C0.ty, C0.fn, [], [], facts s st bl wk, []⟩
noncomputable def Cb : Ctx := ⟨C0.P, C0.ty, C0.fn, [], [], [⟨8, [], .bool (.lit true)⟩, ⟨13, [T (.var 0)], .int .i64 (.var 20)⟩], []⟩
theorem run_bad : treeOk Cb 300 6 (args (.var 0)) (.leaf (.bool (.lit true))) [(.eq (.var 20) (.lit 0), false)] = true := by kernel_rfl
theorem run0 : treeOk (Cs 0 (stillA (.lit 1), .lit 0) no no) 300 6 (args (.lit 0)) (.leaf (.bool (.lit true))) [] = true := by kernel_rfl
theorem run1 : treeOk (Cs 1 no (blockA, .lit 0) no) 300 6 (args (.lit 1)) (.leaf (.bool (.lit true))) [] = true := by kernel_rfl
theorem run2 : treeOk (Cs 2 no no (wokenA, .lit 0)) 300 6 (args (.lit 2)) (.leaf (.bool (.lit true))) [] = true := by kernel_rfl
theorem run3 : treeOk (Cs 3 no no (wokenA, .lit 0)) 300 6 (args (.lit 3)) (.leaf (.bool (.lit true))) [] = true := by kernel_rfl
theorem run4 : treeOk (Cs 4 no no (wokenA, .lit 0)) 300 6 (args (.lit 4)) (.leaf (.bool (.lit true))) [] = true := by kernel_rfl
theorem run5 : treeOk (Cs 5 no no (wokenA, .lit 0)) 300 6 (args (.lit 5)) (.leaf (.bool (.lit true))) [] = true := by kernel_rfl
def ex (t : Th) (a b c x y z : Int) (i : Nat) : Int := match i with
  | 20 => refT t | 30 => a | 31 => b | 32 => c | 34 => x | 35 => y | 36 => z | _ => 0
section
variable (t : Th) (a b d x y z : Int) (c : Bool) (hb : 0 ≤ t.badge)
theorem one {s : Int} {st bl wk : AV × SI} (h : refT t = 0) (hs : t.state = s) (hrun : treeOk (Cs s st bl wk) 300 6 (args (.lit s)) (.leaf (.bool (.lit true))) [] = true) (hf1 : flat st.1 = true) (hf2 : flat bl.1 = true) (hf3 : flat wk.1 = true)
    (h1 : AV.valE (R20.En t (ex t a b d x y z) c) (pr st.1 st.2) = some (pairV (StartT t))) (h2 : AV.valE (R20.En t (ex t a b d x y z) c) (pr bl.1 bl.2) = some (pairV (BlockT t 3 3 0 false))) (h3 : AV.valE (R20.En t (ex t a b d x y z) c) (pr wk.1 wk.2) = some (pairV (WakeT t fun _ => 0))) (hb : 0 ≤ t.badge) :
    Ans Try.prog 6 [.agg t.cells, .agg #[.int .i64 a, .int .i64 b, .int .u64 d, .bool c, .int .i64 x, .int .i64 y, .int .i64 z]] (.bool true) := by
  have hT : AV.valE (R20.En t (ex t a b d x y z) c) (T (.lit s)) = some (.agg t.cells) := val_T t _ _ _ hs.symm
  have hflat : ∀ v : AV, ∀ e : SI, flat v = true → flat (pr v e) = true := fun v e h => by
    show (flat v && (true && true)) = true
    rw [h]; rfl
  refine tree_ok (C := Cs s st bl wk) (σ := sg t (ex t a b d x y z)) (β := bg t c) (fs := fun _ => FS.no) (fn := Try.f6) (c := _) ⟨hC.ty, hC.fn⟩ hprog hsil (fun K f hf H => ?_) Try.func6 rfl ?_ (fun w K => FOk.none rfl w _ _) (.leaf (.bool (.lit true))) [] hrun (by simp) _ rfl
  · have hf' : f ∈ facts s st bl wk := hf
    simp only [facts, List.mem_cons, List.not_mem_nil, or_false] at hf'
    rcases hf' with rfl | rfl | rfl | rfl | rfl | rfl
    · exact fact_val (C := (Cs s st bl wk).more K) hprog (fn := Try.f8) (c := _) Try.func8 rfl rfl rfl rfl rfl ans_works H
    · have h0 := ans_check t hb
      rw [h] at h0
      exact fact_val (C := (Cs s st bl wk).more K) hprog (fn := Try.f13) (c := _) Try.func13 rfl rfl rfl (valT t (ex t a b d x y z) c (.lit s) hs.symm) rfl h0 H
    · exact fact_val (C := (Cs s st bl wk).more K) hprog (fn := Try.f17) (c := _) Try.func17 rfl rfl (hflat _ _ hf1) (valT t (ex t a b d x y z) c (.lit s) hs.symm) h1 (ans_start t hb) H
    · refine fact_val (C := (Cs s st bl wk).more K) hprog (fn := Try.f19) (c := _) Try.func19 rfl rfl (hflat _ _ hf2) (us := [.agg t.cells, .int .i64 3, .int .i64 3, .int .u64 0, .bool false]) ?_ h2 (ans_block t 3 3 0 false hb (Int.le_refl 0)) H
      show AV.valEs (R20.En t (ex t a b d x y z) c) [T (.lit s), .int .i64 (.lit 3), .int .i64 (.lit 3), .int .u64 (.lit 0), .bool (.lit false)] = _
      simp only [AV.valEs, hT]; rfl
    · refine fact_val (C := (Cs s st bl wk).more K) hprog (fn := Try.f21) (c := _) Try.func21 rfl rfl (hflat _ _ hf3) (us := [.agg t.cells, regsV fun _ => 0]) ?_ h3 (ans_wake t hb fun _ => 0) H
      show AV.valEs (R20.En t (ex t a b d x y z) c) [T (.lit s), _] = _
      simp only [AV.valEs, hT]; rfl
    · have h0 := ans_check (stillT t 0) (Int.le_refl 0)
      have e : refT (stillT t 0) = 0 := by
        unfold refT at h
        split at h
        · cases h
        · split at h
          · rename_i hr
            unfold refT stillT
            rw [if_neg (by simp), if_pos (by simp; omega)]
          · cases h
      rw [e] at h0
      exact fact_val (C := (Cs s st bl wk).more K) hprog (fn := Try.f13) (c := _) Try.func13 rfl rfl rfl rfl rfl h0 H
  · show AV.valEs (R20.En t (ex t a b d x y z) c) [T (.lit s), _] = _
    simp only [AV.valEs, hT]; rfl
theorem holds (hb : 0 ≤ t.badge) : Ans Try.prog 6 [.agg t.cells, .agg #[.int .i64 a, .int .i64 b, .int .u64 d, .bool c, .int .i64 x, .int .i64 y, .int .i64 z]] (.bool true) := by
  by_cases h : refT t = 0
  · have hr : 0 ≤ t.state ∧ t.state ≤ 5 := by
      unfold refT at h
      split at h
      · cases h
      · omega
    have hbk : t.state = 1 → refT (blockT t 3 3 0 false) = 0 := fun hs => by
      unfold refT at h
      rw [if_neg (by omega)] at h
      split at h
      · rename_i hr
        unfold refT blockT
        rw [if_neg (by simp), if_pos (by simp; omega)]
      · cases h
    have : t.state = 0 ∨ t.state = 1 ∨ t.state = 2 ∨ t.state = 3 ∨ t.state = 4 ∨ t.state = 5 := by omega
    have hst : t.state ≠ 0 → pairV (StartT t) = pairV (Th.zero, 8) := fun h0 => by unfold StartT; rw [if_pos h, if_neg h0]
    have hbl : t.state ≠ 1 → pairV (BlockT t 3 3 0 false) = pairV (Th.zero, 8) := fun h0 => by unfold BlockT; rw [if_pos h, if_neg h0]
    have hwk : t.state = 0 ∨ t.state = 1 → pairV (WakeT t fun _ => 0) = pairV (Th.zero, 8) := fun h0 => by unfold WakeT; rw [if_pos h, if_pos h0]
    have hwk2 : ¬ (t.state = 0 ∨ t.state = 1) → pairV (WakeT t fun _ => 0) = pairV (regsT (stillT t 1) fun _ => 0, 0) := fun h0 => by unfold WakeT; rw [if_pos h, if_neg h0]
    rcases this with hs | hs | hs | hs | hs | hs
    · refine one t a b d x y z c h hs run0 rfl rfl rfl ?_ (by rw [hbl (by omega)]; rfl) (by rw [hwk (by omega)]; rfl) hb
      rw [show StartT t = (stillT t 1, 0) by unfold StartT; rw [if_pos h, if_pos hs]]; rfl
    · refine one t a b d x y z c h hs run1 rfl rfl rfl (by rw [hst (by omega)]; rfl) ?_ (by rw [hwk (by omega)]; rfl) hb
      rw [show BlockT t 3 3 0 false = (blockT t 3 3 0 false, 0) by unfold BlockT; rw [if_pos h, if_pos hs, if_neg (by omega), if_pos (hbk hs)]]; rfl
    · exact one t a b d x y z c h hs run2 rfl rfl rfl (by rw [hst (by omega)]; rfl) (by rw [hbl (by omega)]; rfl) (by rw [hwk2 (by omega)]; rfl) hb
    · exact one t a b d x y z c h hs run3 rfl rfl rfl (by rw [hst (by omega)]; rfl) (by rw [hbl (by omega)]; rfl) (by rw [hwk2 (by omega)]; rfl) hb
    · exact one t a b d x y z c h hs run4 rfl rfl rfl (by rw [hst (by omega)]; rfl) (by rw [hbl (by omega)]; rfl) (by rw [hwk2 (by omega)]; rfl) hb
    · exact one t a b d x y z c h hs run5 rfl rfl rfl (by rw [hst (by omega)]; rfl) (by rw [hbl (by omega)]; rfl) (by rw [hwk2 (by omega)]; rfl) hb
  · refine tree_ok (C := Cb) (σ := sg t (ex t a b d x y z)) (β := bg t c) (fs := fun _ => FS.no) (fn := Try.f6) (c := _) ⟨hC.ty, hC.fn⟩ hprog hsil (fun K f hf H => ?_) Try.func6 rfl rfl (fun w K => FOk.none rfl w _ _) (.leaf (.bool (.lit true))) _ run_bad (fun p hp => ?_) _ rfl
    · have hf' : f ∈ [(⟨8, [], .bool (.lit true)⟩ : Fact), ⟨13, [T (.var 0)], .int .i64 (.var 20)⟩] := hf
      simp only [List.mem_cons, List.not_mem_nil, or_false] at hf'
      rcases hf' with rfl | rfl
      · exact fact_val (C := Cb.more K) hprog (fn := Try.f8) (c := _) Try.func8 rfl rfl rfl rfl rfl ans_works H
      · exact fact_val (C := Cb.more K) hprog (fn := Try.f13) (c := _) Try.func13 rfl rfl rfl (valT t _ _ _ rfl) rfl (ans_check t hb) H
    · simp only [List.mem_singleton] at hp; subst hp
      exact decide_eq_false h
end
end Only
end Go.Proofs.Ytommhbofncgjaaa.Vm.R20
