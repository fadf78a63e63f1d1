/- ThreadRight over the machine. No condition but those each theorem names. -/
import Derived.Test.YtommhbofncgjaaaR20Trip
import Derived.Test.YtommhbofncgjaaaVmGo
namespace Go.Proofs.Ytommhbofncgjaaa.Vm.R20
open Go Go.Proofs.Ytommhbofncgjaaa.Vm Go.Proofs Go.RowKit
set_option maxRecDepth 1000000
set_option linter.unusedVariables false
set_option linter.unusedSimpArgs false
namespace Right
def cTT : List AV := [.int .i64 (.var 0), .int .i64 (.var 1), .int .u64 (.var 2), .bool (.var 3), .int .i64 (.var 4), .int .i64 (.var 5), .int .i64 (.var 6), .int .i64 (.lit 77), .int .u64 (.var 8), .int .u64 (.var 9), .int .u64 (.var 10), .int .u64 (.var 11), .int .u64 (.var 12), .int .u64 (.var 13), .int .u64 (.var 14), .int .u64 (.var 15)]
def TT : AV := .agg cTT
def X : AV := .agg [.int .i64 (.var 17), .int .i64 (.var 18), .int .u64 (.var 19), .bool (.var 4), .int .i64 (.var 20), .int .i64 (.var 5), .int .i64 (.var 6), .int .i64 (.lit 77), .int .u64 (.var 21), .int .u64 (.var 22), .int .u64 (.var 23), .int .u64 (.var 24), .int .u64 (.var 25), .int .u64 (.var 26), .int .u64 (.var 27), .int .u64 (.var 28)]
def S1 : Sp := ⟨[(2, .fsl 0), (3, .fsl 1), (9, .ptr 0 0)], [.cells 27 true (.leaf cTT)]⟩
def SL : Sp := ⟨[(2, .fsl 0), (3, .fsl 1), (9, .ptr 0 0), (11, .int .i64 (.var 16))], [.cells 27 true (.leaf cTT)]⟩
def SE : Sp := ⟨[], []⟩
def fkR : List (List (Option IntKind)) := [[some .i64, some .i64, some .u64, none, some .i64, some .i64, some .i64], [some .i64]]
noncomputable def Cr (K : List (Atom × Bool)) (F : List Fact) : Ctx := ⟨C0.P, C0.ty, C0.fn, K, fkR, F, []⟩
noncomputable def body : Code := Try.f5.body.getD .skip
noncomputable def y : Code := dropS 5 body
noncomputable def loop : Code := blkB (seqR (seqL y))
noncomputable def L : SI := modI 0 8
noncomputable def D : SI := modI 1 4
noncomputable def head : List Fact := [⟨8, [], .bool (.lit true)⟩, ⟨9, [.int .i64 L, .int .i64 D], pairA (Tn (.lit 0) (.lit (-1)) L D) (.lit 0)⟩]
noncomputable def θ0 : List SI := [.lit 0, .lit 0, .lit 0, .lit 0, .lit (-1), L, D, .lit 77, .lit 0, .lit 0, .lit 0, .lit 0, .lit 0, .lit 0, .lit 0, .lit 0]
def φ0 : List SB := [.lit false, .lit false, .lit false, .lit false]
def θi (e : SI) : List SI := [.var 0, .var 1, .var 2, .lit 0, .var 4, .var 5, .var 6, .lit 77, .var 8, .var 9, .var 10, .var 11, .var 12, .var 13, .var 14, .var 15, e]
def φi : List SB := [.lit false, .lit false, .lit false, .var 3]
def inc : SI := .app .add .i64 (.var 16) (.lit 1)
def θx : List SI := [.var 17, .var 18, .var 19, .lit 0, .var 20, .var 5, .var 6, .lit 77, .var 21, .var 22, .var 23, .var 24, .var 25, .var 26, .var 27, .var 28, inc]
def φx : List SB := [.lit false, .lit false, .lit false, .var 4]
def KE : SI := .app .conv .i64 (.app .rem .u64 (.app .conv .u64 (.elem 1 (.var 16) 0) (.lit 0)) (.lit 5)) (.lit 0)
def Kin : List (Atom × Bool) := [(.lt (.var 16) (.len 0), true), (.lt (.var 16) (.len 1), true), (.lt (.var 16) (.lit 50), true), (.lt (.var 16) (.lit 0), false)]
/-- The kind is k. -/
noncomputable def Kk (k : Int) : List (Atom × Bool) := [(.eq KE (.lit 0), ieq k 0), (.eq KE (.lit 1), ieq k 1), (.eq KE (.lit 2), ieq k 2), (.eq KE (.lit 3), ieq k 3)] ++ Kin
noncomputable def Kbad (k : Int) : List (Atom × Bool) := (.eq (.var 29) (.lit 0), false) :: Kk k
/-- What is called when the kind is k. -/
noncomputable def fnK (k : Int) : Nat × List AV := ife (ieq k 0) (17, [TT]) (ife (ieq k 2) (19, [TT, .int .i64 (.elem 0 (.var 16) 0), .int .i64 (.elem 0 (.var 16) 1), .int .u64 (.elem 0 (.var 16) 2), .bool (.elem 0 (.var 16) 3)])
  (ife (ieq k 3) (21, [TT, .agg [.int .u64 (.app .conv .u64 (.var 16) (.lit 0)), .int .u64 (.lit 0), .int .u64 (.lit 0), .int .u64 (.lit 0), .int .u64 (.lit 0), .int .u64 (.lit 0), .int .u64 (.lit 0), .int .u64 (.lit 0)]]) (10, [TT, .int .i64 (.elem 0 (.var 16) 4)])))
noncomputable def Fok (k : Int) : List Fact := [⟨(fnK k).1, (fnK k).2, pairA X (.lit 0)⟩, ⟨13, [X], .int .i64 (.lit 0)⟩]
noncomputable def Fbad (k : Int) : List Fact := [⟨(fnK k).1, (fnK k).2, pairA zeroA (.var 29)⟩]
noncomputable def Fstop : List Fact := [⟨15, [TT], X⟩, ⟨13, [X], .int .i64 (.lit 0)⟩]
theorem code_ok : codeOk 139 body = true := by kernel_rfl
theorem is1 : isSeq y = true := by kernel_rfl
theorem is2 : isSeq (seqL y) = true := by kernel_rfl
theorem is3 : isBlk 0 (seqR (seqL y)) = true := by kernel_rfl
theorem is4 : isLoop loop = true := by kernel_rfl
theorem run_head : okNorm [0] θ0 φ0 139 S1 (runS (runA (Cr [] head) 300) 5 body (Sp.mk (slotsOf 0 [.int .i64 (.var 0), .int .i64 (.var 1), .fsl 0, .fsl 1]) []).st) = true := by kernel_rfl
theorem run_r7 : okNorm [0] (θi (.lit 0)) φi 139 SL (runA (Cr [] []) 300 (seqL (seqL y)) S1.st) = true := by kernel_rfl
theorem run_ok0 : okNorm [0] θx φx 139 SL (runA (Cr (Kk 0) (Fok 0)) 300 (loopB loop) SL.st) = true := by kernel_rfl
theorem run_ok1 : okNorm [0] θx φx 139 SL (runA (Cr (Kk 1) Fstop) 300 (loopB loop) SL.st) = true := by kernel_rfl
theorem run_ok2 : okNorm [0] θx φx 139 SL (runA (Cr (Kk 2) (Fok 2)) 300 (loopB loop) SL.st) = true := by kernel_rfl
theorem run_ok3 : okNorm [0] θx φx 139 SL (runA (Cr (Kk 3) (Fok 3)) 300 (loopB loop) SL.st) = true := by kernel_rfl
theorem run_ok4 : okNorm [0] θx φx 139 SL (runA (Cr (Kk 4) (Fok 4)) 300 (loopB loop) SL.st) = true := by kernel_rfl
theorem run_bad0 : okNorm [0] (θi inc) φi 139 SL (runA (Cr (Kbad 0) (Fbad 0)) 300 (loopB loop) SL.st) = true := by kernel_rfl
theorem run_bad2 : okNorm [0] (θi inc) φi 139 SL (runA (Cr (Kbad 2) (Fbad 2)) 300 (loopB loop) SL.st) = true := by kernel_rfl
theorem run_bad3 : okNorm [0] (θi inc) φi 139 SL (runA (Cr (Kbad 3) (Fbad 3)) 300 (loopB loop) SL.st) = true := by kernel_rfl
theorem run_bad4 : okNorm [0] (θi inc) φi 139 SL (runA (Cr (Kbad 4) (Fbad 4)) 300 (loopB loop) SL.st) = true := by kernel_rfl
theorem run_out1 : okExit 0 [] [] [] 139 SE (runA (Cr [(.lt (.var 16) (.len 0), false)] []) 300 (loopB loop) SL.st) = true := by kernel_rfl
theorem run_out2 : okExit 0 [] [] [] 139 SE (runA (Cr [(.lt (.var 16) (.len 0), true), (.lt (.var 16) (.len 1), false)] []) 300 (loopB loop) SL.st) = true := by kernel_rfl
theorem run_out3 : okExit 0 [] [] [] 139 SE (runA (Cr [(.lt (.var 16) (.len 0), true), (.lt (.var 16) (.len 1), true), (.lt (.var 16) (.lit 50), false)] []) 300 (loopB loop) SL.st) = true := by kernel_rfl
theorem run_rest : okEnd (Cr [] []) Try.f5 (.bool (.lit true)) (runA (Cr [] []) 300 (seqR y) SE.st) = true := by kernel_rfl
/-! ### Plain -/
theorem ref_iff (t : Th) : refT t = 0 ↔ ((0 ≤ t.state ∧ t.state ≤ 5) ∧ (0 ≤ t.on ∧ t.on ≤ 63) ∧ t.badge < 268435456 ∧ (-1 ≤ t.caller ∧ t.caller ≤ 63) ∧ (0 ≤ t.level ∧ t.level ≤ 7) ∧ (0 ≤ t.domain ∧ t.domain ≤ 3) ∧ (0 ≤ t.pc ∧ t.pc ≤ 4095) ∧ ((t.state = 0 ∨ t.state = 1 ∨ t.state = 4) → t.on = 0) ∧ (t.state ≠ 2 → t.badge = 0 ∧ t.calls = false)) := by
  unfold refT
  by_cases h1 : t.state < 0 ∨ 5 < t.state
  · rw [if_pos h1]
    exact ⟨fun h => (by cases h), fun h => (by omega)⟩
  · rw [if_neg h1]
    by_cases h2 : 0 ≤ t.on ∧ t.on ≤ 63 ∧ t.badge < 268435456 ∧ -1 ≤ t.caller ∧ t.caller ≤ 63 ∧ 0 ≤ t.level ∧ t.level ≤ 7 ∧ 0 ≤ t.domain ∧ t.domain ≤ 3 ∧ 0 ≤ t.pc ∧ t.pc ≤ 4095 ∧ ((t.state = 0 ∨ t.state = 1 ∨ t.state = 4) → t.on = 0) ∧ (t.state ≠ 2 → t.badge = 0 ∧ t.calls = false)
    · rw [if_pos h2]
      obtain ⟨a1, a2, a3, a4, a5, a6, a7, a8, a9, a10, a11, a12, a13⟩ := h2
      exact ⟨fun _ => ⟨by omega, ⟨a1, a2⟩, a3, ⟨a4, a5⟩, ⟨a6, a7⟩, ⟨a8, a9⟩, ⟨a10, a11⟩, a12, a13⟩, fun _ => rfl⟩
    · rw [if_neg h2]
      refine ⟨fun h => (by cases h), fun ⟨_, ⟨a1, a2⟩, a3, ⟨a4, a5⟩, ⟨a6, a7⟩, ⟨a8, a9⟩, ⟨a10, a11⟩, a12, a13⟩ => absurd ⟨a1, a2, a3, a4, a5, a6, a7, a8, a9, a10, a11, a12, a13⟩ h2⟩
/-- What comes of something that is done with a right thread. -/
def Fine (t : Th) (p : Th × Int) : Prop := (p.2 = 0 ∧ refT p.1 = 0 ∧ p.1.level = t.level ∧ p.1.domain = t.domain ∧ p.1.pc = t.pc ∧ 0 ≤ p.1.badge) ∨ (p.2 ≠ 0 ∧ p.1 = Th.zero)
theorem still_fine {t : Th} (h : refT t = 0) (s : Int) (hs : 0 ≤ s ∧ s ≤ 1) : refT (stillT t s) = 0 := by
  rw [ref_iff] at h ⊢
  obtain ⟨h1, h2, h3, h4, h5, h6, h7, h8, h9⟩ := h
  exact ⟨by simp only [stillT]; omega, by simp [stillT], by simp [stillT], h4, h5, h6, h7, by simp [stillT], by simp [stillT]⟩
theorem start_fine {t : Th} (h : refT t = 0) : Fine t (StartT t) := by
  unfold StartT
  rw [if_pos h]
  by_cases h1 : t.state = 0
  · rw [if_pos h1]; exact .inl ⟨rfl, still_fine h 1 (by omega), rfl, rfl, rfl, Int.le_refl 0⟩
  · rw [if_neg h1]; exact .inr ⟨by simp, rfl⟩
theorem block_fine {t : Th} (h : refT t = 0) (s o b : Int) (c : Bool) (hb : 0 ≤ b) : Fine t (BlockT t s o b c) := by
  unfold BlockT
  rw [if_pos h]
  by_cases h1 : t.state = 1
  · rw [if_pos h1]
    by_cases h2 : s = 0 ∨ s = 1
    · rw [if_pos h2]; exact .inr ⟨by simp, rfl⟩
    · rw [if_neg h2]
      by_cases h3 : refT (blockT t s o b c) = 0
      · rw [if_pos h3]; exact .inl ⟨rfl, h3, rfl, rfl, rfl, hb⟩
      · rw [if_neg h3]; exact .inr ⟨h3, rfl⟩
  · rw [if_neg h1]; exact .inr ⟨by simp, rfl⟩
theorem wake_fine {t : Th} (h : refT t = 0) (r : Nat → Int) : Fine t (WakeT t r) := by
  unfold WakeT
  rw [if_pos h]
  by_cases h1 : t.state = 0 ∨ t.state = 1
  · rw [if_pos h1]; exact .inr ⟨by simp, rfl⟩
  · rw [if_neg h1]
    refine .inl ⟨rfl, ?_, rfl, rfl, rfl, Int.le_refl 0⟩
    have := still_fine h 1 (by omega)
    exact this
theorem ask_fine {t : Th} (h : refT t = 0) (hb : 0 ≤ t.badge) (k : Int) : Fine t (AskT t k) := by
  unfold AskT
  rw [if_pos h]
  by_cases h1 : k < -1 ∨ 63 < k
  · rw [if_pos h1]; exact .inr ⟨by simp, rfl⟩
  · rw [if_neg h1]
    by_cases h2 : k ≠ -1 ∧ t.caller ≠ -1
    · rw [if_pos h2]; exact .inr ⟨by simp, rfl⟩
    · rw [if_neg h2]
      refine .inl ⟨rfl, ?_, rfl, rfl, rfl, hb⟩
      rw [ref_iff] at h ⊢
      obtain ⟨h1', h2, h3, h4, h5, h6, h7, h8, h9⟩ := h
      exact ⟨h1', h2, h3, by simp only; omega, h5, h6, h7, h8, h9⟩
/-! ### The walk -/
def vals (t : Th) (i : Int) : List Int := [t.state, t.on, t.badge, 0, t.caller, t.level, t.domain, 77, t.r0, t.r1, t.r2, t.r3, t.r4, t.r5, t.r6, t.r7, i]
def flags (t : Th) : List Bool := [false, false, false, t.calls]
/-- With a result beside it. -/
def more (t x : Th) (i e : Int) : List Int := vals t i ++ [x.state, x.on, x.badge, x.caller, x.r0, x.r1, x.r2, x.r3, x.r4, x.r5, x.r6, x.r7, e]
def sigM (t x : Th) (i e : Int) (j : Nat) : Int := ((more t x i e)[j]?).getD 0
def betM (t x : Th) (j : Nat) : Bool := ((flags t ++ [x.calls])[j]?).getD false
theorem names (t x : Th) (i e : Int) : Names (vals t i) (flags t) (sigM t x i e) (betM t x) := by
  refine ⟨fun j v h => ?_, fun j v h => ?_⟩
  · have hj := (List.getElem?_eq_some_iff.1 h).1
    unfold sigM more
    rw [List.getElem?_append_left hj, h]; rfl
  · have hj := (List.getElem?_eq_some_iff.1 h).1
    unfold betM
    rw [List.getElem?_append_left hj, h]; rfl
theorem wrap_inc {i : Int} (h : 0 ≤ i ∧ i < 50) : IntKind.i64.wrap (i + 1) = i + 1 := by
  have hb : ((2 : Int) ^ IntKind.i64.bits) = 18446744073709551616 := by decide
  have hb2 : ((2 : Int) ^ (IntKind.i64.bits - 1)) = 9223372036854775808 := by decide
  unfold IntKind.wrap
  simp only [hb, hb2]
  rw [Int.emod_eq_of_lt (by omega) (by omega)]
  simp
  intro _
  omega
section
variable {W : World} {fs : Nat → FS} {a : Act} {w : World}
theorem env0 {K : List (Atom × Bool)} {F : List Fact} {C0' : Ctx} (hf0 : C0'.fk = fkR) {σ : Nat → Int} {β : Nat → Bool} (hF : ∀ f ∈ F, ∀ (C : Ctx), C.P = Try.prog → ∀ H, CallOk C (Ext (Env.of σ β fs)) f.f f.args H f.res H) (hK : ∀ p ∈ K, p.1.den (Env.of σ β fs) = p.2) : Env0 (Cr K F) C0' σ β fs :=
  ⟨⟨hC.ty, hC.fn⟩, hprog, hsil, fun f hf H => hF f hf _ rfl H, hK, hf0.symm⟩
/-- A round that goes well. -/
theorem ok_round {K : List (Atom × Bool)} {F : List Fact} (t x : Th) {i : Int} (hi : 0 ≤ i ∧ i < 50) (hl : x.level = t.level) (hd : x.domain = t.domain) (hA : At W (Cr [] []) 139 SL (vals t i) (flags t) fs a w) (e : Int)
    (hF : ∀ f ∈ F, ∀ (C : Ctx), C.P = Try.prog → ∀ H, CallOk C (Ext (Env.of (sigM t x i e) (betM t x) fs)) f.f f.args H f.res H) (hK : ∀ p ∈ K, p.1.den (Env.of (sigM t x i e) (betM t x) fs) = p.2)
    (hrun : okNorm [0] θx φx 139 SL (runA (Cr K F) 300 (loopB loop) SL.st) = true) : (loopB loop).wp Try.prog (fun ex a' w' => ex = .normal ∧ At W (Cr [] []) 139 SL (vals x (i + 1)) (flags x) fs a' w') a w := by
  refine wp_mono (run_norm (C := Cr K F) hA (names t x i e) (env0 rfl hF hK) (by decide) (codeOk_loop (codeOk_blk (codeOk_seq (codeOk_seq (codeOk_drop (k := 5) code_ok)).1).2)) hrun) fun ex a' w' ⟨h1, h2⟩ => ⟨h1, h2.eq ?_ rfl⟩
  have e1 : θx.map (·.den (Env.of (sigM t x i e) (betM t x) fs)) = [x.state, x.on, x.badge, 0, x.caller, t.level, t.domain, 77, x.r0, x.r1, x.r2, x.r3, x.r4, x.r5, x.r6, x.r7, IntKind.i64.wrap (i + 1)] := rfl
  rw [e1, wrap_inc hi, ← hl, ← hd]; rfl
/-- A round that changes nothing. -/
theorem bad_round {K : List (Atom × Bool)} {F : List Fact} (t x : Th) {i : Int} (hi : 0 ≤ i ∧ i < 50) (hA : At W (Cr [] []) 139 SL (vals t i) (flags t) fs a w) (e : Int)
    (hF : ∀ f ∈ F, ∀ (C : Ctx), C.P = Try.prog → ∀ H, CallOk C (Ext (Env.of (sigM t x i e) (betM t x) fs)) f.f f.args H f.res H) (hK : ∀ p ∈ K, p.1.den (Env.of (sigM t x i e) (betM t x) fs) = p.2)
    (hrun : okNorm [0] (θi inc) φi 139 SL (runA (Cr K F) 300 (loopB loop) SL.st) = true) : (loopB loop).wp Try.prog (fun ex a' w' => ex = .normal ∧ At W (Cr [] []) 139 SL (vals t (i + 1)) (flags t) fs a' w') a w := by
  refine wp_mono (run_norm (C := Cr K F) hA (names t x i e) (env0 rfl hF hK) (by decide) (codeOk_loop (codeOk_blk (codeOk_seq (codeOk_seq (codeOk_drop (k := 5) code_ok)).1).2)) hrun) fun ex a' w' ⟨h1, h2⟩ => ⟨h1, h2.eq ?_ rfl⟩
  have e1 : (θi inc).map (·.den (Env.of (sigM t x i e) (betM t x) fs)) = [t.state, t.on, t.badge, 0, t.caller, t.level, t.domain, 77, t.r0, t.r1, t.r2, t.r3, t.r4, t.r5, t.r6, t.r7, IntKind.i64.wrap (i + 1)] := rfl
  rw [e1, wrap_inc hi]; rfl
end
theorem mod_range (E : Env) (x : SI) (k : Int) (h : 0 < k) (h2 : k ≤ 1000) : 0 ≤ (SI.app .conv .i64 (.app .rem .u64 (.app .conv .u64 x (.lit 0)) (.lit k)) (.lit 0)).den E ∧ (SI.app .conv .i64 (.app .rem .u64 (.app .conv .u64 x (.lit 0)) (.lit k)) (.lit 0)).den E < k :=
  modI_range ⟨E.ρ, fun _ => x.den E, E.β, E.fs⟩ 0 k h h2
section
variable {fs : Nat → FS} {t x : Th} {i e : Int}
theorem valTT (hpc : t.pc = 77) : AV.valE (Env.of (sigM t x i e) (betM t x) fs) TT = some (.agg t.cells) := by
  obtain ⟨s, o, b, c, k, l, d, p, r0, r1, r2, r3, r4, r5, r6, r7⟩ := t
  simp only at hpc; subst hpc; rfl
theorem valX (hl : x.level = t.level) (hd : x.domain = t.domain) (hpc : x.pc = 77) : AV.valE (Env.of (sigM t x i e) (betM t x) fs) X = some (.agg x.cells) := by
  obtain ⟨s, o, b, c, k, l, d, p, r0, r1, r2, r3, r4, r5, r6, r7⟩ := x
  simp only at hl hd hpc; subst hpc hl hd; rfl
/-- The facts of a round that goes well. -/
theorem facts_ok {f : Nat} {fn : Func} {cd : Code} (hf : Try.prog.funcs[f]? = some fn) (hb : fn.body = some cd) {args : List AV} (hfa : flats args = true) {us : List Value} (hus : AV.valEs (Env.of (sigM t x i e) (betM t x) fs) args = some us) (hl : x.level = t.level) (hd : x.domain = t.domain) (hpc : x.pc = 77) (hx : refT x = 0) (hxb : 0 ≤ x.badge)
    (ha : Ans Try.prog f us (pairV (x, 0))) (g : Fact) (hg : g ∈ [(⟨f, args, pairA X (.lit 0)⟩ : Fact), ⟨13, [X], .int .i64 (.lit 0)⟩]) (C : Ctx) (hP : C.P = Try.prog) (H : Heap) : CallOk C (Ext (Env.of (sigM t x i e) (betM t x) fs)) g.f g.args H g.res H := by
  obtain ⟨P, ty, fnn, know, fk, fc, si⟩ := C
  have hP' : P = Try.prog := hP
  subst hP'
  simp only [List.mem_cons, List.not_mem_nil, or_false] at hg
  rcases hg with rfl | rfl
  · refine fact_val (C := ⟨Try.prog, ty, fnn, know, fk, fc, si⟩) hprog hf hb hfa rfl hus ?_ ha H
    have := valX (fs := fs) (i := i) (e := e) hl hd hpc
    unfold pairA
    simp only [AV.valE, AV.valEs, this]
    rfl
  · have h0 := ans_check x hxb
    rw [hx] at h0
    refine fact_val (C := ⟨Try.prog, ty, fnn, know, fk, fc, si⟩) hprog (fn := Try.f13) (c := _) Try.func13 rfl rfl rfl ?_ rfl h0 H
    simp only [AV.valEs, valX (fs := fs) (i := i) (e := e) hl hd hpc]
/-- The fact of one that does not. -/
theorem facts_bad {f : Nat} {fn : Func} {cd : Code} (hf : Try.prog.funcs[f]? = some fn) (hb : fn.body = some cd) {args : List AV} (hfa : flats args = true) {us : List Value} (hus : AV.valEs (Env.of (sigM t x i e) (betM t x) fs) args = some us)
    (ha : Ans Try.prog f us (pairV (Th.zero, e))) (g : Fact) (hg : g ∈ [(⟨f, args, pairA zeroA (.var 29)⟩ : Fact)]) (C : Ctx) (hP : C.P = Try.prog) (H : Heap) : CallOk C (Ext (Env.of (sigM t x i e) (betM t x) fs)) g.f g.args H g.res H := by
  obtain ⟨P, ty, fnn, know, fk, fc, si⟩ := C
  have hP' : P = Try.prog := hP
  subst hP'
  simp only [List.mem_singleton] at hg
  subst hg
  exact fact_val (C := ⟨Try.prog, ty, fnn, know, fk, fc, si⟩) hprog hf hb hfa rfl hus rfl ha H
theorem know_in (h0 : i < ((fs 0).len : Int)) (h1 : i < ((fs 1).len : Int)) (hi : 0 ≤ i ∧ i < 50) : ∀ p ∈ Kin, p.1.den (Env.of (sigM t x i e) (betM t x) fs) = p.2 := by
  intro p hp
  simp only [Kin, List.mem_cons, List.not_mem_nil, or_false] at hp
  rcases hp with rfl | rfl | rfl | rfl
  · exact decide_eq_true h0
  · exact decide_eq_true h1
  · exact decide_eq_true hi.2
  · exact decide_eq_false (by show ¬ i < 0; omega)
/-- The kind of what is done. -/
noncomputable def kind (fs : Nat → FS) (i : Int) : Int := KE.den (Env.of (fun _ => i) (fun _ => false) fs)
theorem know_k {k : Int} (hk : kind fs i = k) (h0 : i < ((fs 0).len : Int)) (h1 : i < ((fs 1).len : Int)) (hi : 0 ≤ i ∧ i < 50) : ∀ p ∈ Kk k, p.1.den (Env.of (sigM t x i e) (betM t x) fs) = p.2 := by
  intro p hp
  unfold Kk at hp
  rw [List.mem_append] at hp
  rcases hp with hp | hp
  · have key : ∀ c : Int, (Atom.eq KE (.lit c)).den (Env.of (sigM t x i e) (betM t x) fs) = ieq k c := fun c => by
      rw [ieq_eq, ← hk]; rfl
    simp only [List.mem_cons, List.not_mem_nil, or_false] at hp
    rcases hp with rfl | rfl | rfl | rfl
    · exact key 0
    · exact key 1
    · exact key 2
    · exact key 3
  · exact know_in h0 h1 hi p hp
theorem know_bad {k : Int} (he : e ≠ 0) (hk : kind fs i = k) (h0 : i < ((fs 0).len : Int)) (h1 : i < ((fs 1).len : Int)) (hi : 0 ≤ i ∧ i < 50) : ∀ p ∈ Kbad k, p.1.den (Env.of (sigM t x i e) (betM t x) fs) = p.2 := by
  intro p hp
  unfold Kbad at hp
  rw [List.mem_cons] at hp
  rcases hp with rfl | hp
  · exact decide_eq_false he
  · exact know_k hk h0 h1 hi p hp
end
def ksA : List (Option IntKind) := [some .i64, some .i64, some .u64, none, some .i64, some .i64, some .i64]
theorem call (level domain : Int) (v2 v3 : Value) (w : World) (h2 : SlOk w v2 ksA) (h3 : SlOk w v3 [some .i64]) :
    Calls Try.prog 5 #[.int .i64 level, .int .i64 domain, v2, v3] w fun e w' => e = .returned (.bool true) ∧ Below w.heap.size w w' := by
  obtain ⟨f1, f2, f3, f4, f5⟩ := h2.fok
  obtain ⟨g1, g2, g3, g4, g5⟩ := h3.fok
  generalize hfs : (fun i => if i = 0 then fsOf w v2 7 else if i = 1 then fsOf w v3 1 else FS.no : Nat → FS) = fs
  have e0 : fs 0 = fsOf w v2 7 := by rw [← hfs]; rfl
  have e1 : fs 1 = fsOf w v3 1 := by rw [← hfs]; rfl
  have hfok : FOk (fun r => r < w.heap.size) w (Cr [] []) (Env.of (fun _ => 0) (fun _ => false) fs) := by
    refine ⟨fun i => ?_, fun i ks hk => ?_, fun i ks q j ok hk => ?_⟩
    · show (fs i).v.oneCell' = true
      rw [← hfs]
      show (if i = 0 then fsOf w v2 7 else if i = 1 then fsOf w v3 1 else FS.no).v.oneCell' = true
      split
      · exact f1
      · split
        · exact g1
        · rfl
    · rw [nth_eq] at hk
      show (fs i).esz = _ ∧ (((fs i).v = _ ∧ (fs i).len = 0) ∨ ((fs i).blk < _ ∧ ∃ c, (fs i).v = .slice (some ⟨(fs i).blk, (fs i).off, none⟩) (fs i).len c))
      match i, hk with
      | 0, hk => simp [Cr, fkR] at hk; subst hk; rw [e0]; exact ⟨f2, f4⟩
      | 1, hk => simp [Cr, fkR] at hk; subst hk; rw [e1]; exact ⟨g2, g4⟩
      | i + 2, hk => simp [Cr, fkR] at hk
    · rw [nth_eq] at hk
      show q < (fs i).len → ks[j]? = some ok → w.cell? ⟨(fs i).blk, (fs i).off + q * (fs i).esz + j, none⟩ = some (kindVal ok ((fs i).cell q j))
      match i, hk with
      | 0, hk => simp [Cr, fkR] at hk; subst hk; rw [e0]; exact f5 q j ok
      | 1, hk => simp [Cr, fkR] at hk; subst hk; rw [e1]; exact g5 q j ok
      | i + 2, hk => simp [Cr, fkR] at hk
  have hbadge : ∀ i : Int, 0 ≤ i → i < ((fs 0).len : Int) → 0 ≤ (fs 0).cell i.toNat 2 := fun i hi0 hi1 => by
    rw [e0] at hi1 ⊢
    rcases h2.shape with rfl | ⟨b, o, len, cap, rfl, _⟩
    · have : i < 0 := hi1
      omega
    · have hlt : i.toNat < len := by
        have : i < (len : Int) := hi1
        omega
      obtain ⟨cs, k1, k2⟩ := h2.cells _ len cap rfl i.toNat hlt
      obtain ⟨n0, l0, rfl, _, n1, l1, rfl, _, n2, l2, rfl, hn, _⟩ := k1
      have := k2 2 (by decide)
      show 0 ≤ (match w.cell? ⟨b, o + i.toNat * 7 + 2, none⟩ with | some c => cellN c | none => 0)
      rw [show w.cell? ⟨b, o + i.toNat * 7 + 2, none⟩ = some (.int .u64 n2) from this]
      exact hn.1
  have hN : Try.f5.ntmps = 139 := by kernel_rfl
  have hbody : Try.f5.body = some body := by kernel_rfl
  refine call_at (C := Cr [] []) (σl := [level, domain]) (βl := []) (fs := fs) (f := 5) (fn := Try.f5) (c := body) Try.func5 hbody (args := [.int .i64 (.var 0), .int .i64 (.var 1), .fsl 0, .fsl 1]) (us := [.int .i64 level, .int .i64 domain, v2, v3]) (fun σ β hn => ?_) hfok rfl (by rw [hN]; decide) (by rw [hN]; decide) fun a hA => ?_
  · have k0 := hn.σ 0 level rfl
    have k1 := hn.σ 1 domain rfl
    have : AV.valEs (Env.of σ β fs) [.int .i64 (.var 0), .int .i64 (.var 1), .fsl 0, .fsl 1] = some [.int .i64 (σ 0), .int .i64 (σ 1), (fs 0).v, (fs 1).v] := rfl
    rw [this, k0, k1, e0, e1, show (fsOf w v2 7).v = v2 from f3, show (fsOf w v3 1).v = v3 from g3]
  rw [hN] at hA
  generalize hQ : bodyPostD (Cr [] []).P Try.f5 (fun e w' => e = .returned (.bool true) ∧ Below w.heap.size w w') = Q
  -- the head
  generalize hs0 : (fun j => ([level, domain][j]?).getD 0 : Nat → Int) = σ0
  have hn0 : Names [level, domain] [] σ0 (fun _ => false) := ⟨fun j v h => by rw [← hs0]; show ([level, domain][j]?).getD 0 = v; rw [h]; rfl, fun j v h => by simp at h⟩
  have hl := modI_range (Env.of σ0 (fun _ => false) fs) 0 8 (by decide) (by decide)
  have hd := modI_range (Env.of σ0 (fun _ => false) fs) 1 4 (by decide) (by decide)
  generalize hlv : (modI 0 8).den (Env.of σ0 (fun _ => false) fs) = l at hl
  generalize hdv : (modI 1 4).den (Env.of σ0 (fun _ => false) fs) = d at hd
  have hhead : ∀ f ∈ head, ∀ (C : Ctx), C.P = Try.prog → ∀ H, CallOk C (Ext (Env.of σ0 (fun _ => false) fs)) f.f f.args H f.res H := fun f hf C hP H => by
    obtain ⟨P, ty, fnn, know, fk, fc, si⟩ := C
    have hP' : P = Try.prog := hP
    subst hP'
    simp only [head, List.mem_cons, List.not_mem_nil, or_false] at hf
    rcases hf with rfl | rfl
    · exact fact_val (C := ⟨Try.prog, ty, fnn, know, fk, fc, si⟩) hprog (fn := Try.f8) (c := _) Try.func8 rfl rfl rfl rfl rfl ans_works H
    · have h := ans_new ((modI 0 8).den (Env.of σ0 (fun _ => false) fs)) ((modI 1 4).den (Env.of σ0 (fun _ => false) fs))
      rw [show NewT ((modI 0 8).den (Env.of σ0 (fun _ => false) fs)) ((modI 1 4).den (Env.of σ0 (fun _ => false) fs)) = (newT ((modI 0 8).den (Env.of σ0 (fun _ => false) fs)) ((modI 1 4).den (Env.of σ0 (fun _ => false) fs)), 0) by unfold NewT; rw [if_neg (by rw [hlv, hdv]; omega)]] at h
      exact fact_val (C := ⟨Try.prog, ty, fnn, know, fk, fc, si⟩) hprog (fn := Try.f9) (c := _) Try.func9 rfl rfl rfl rfl rfl h H
  refine run_parts (C := Cr [] head) hA hn0 (env0 rfl hhead (fun p hp => by cases hp)) (by decide) code_ok run_head fun a1 w1 hA1 => ?_
  have hA1' : At w (Cr [] []) 139 S1 [0, 0, 0, 0, -1, l, d, 77, 0, 0, 0, 0, 0, 0, 0, 0] [false, false, false, false] fs a1 w1 := hA1.eq (by rw [← hlv, ← hdv]; rfl) rfl
  have hcy := codeOk_drop (k := 5) code_ok
  have hnn : Names [0, 0, 0, 0, -1, l, d, 77, 0, 0, 0, 0, 0, 0, 0, 0] [false, false, false, false] (sigM ⟨0, 0, 0, false, -1, l, d, 77, 0, 0, 0, 0, 0, 0, 0, 0⟩ Th.zero 0 0) (betM ⟨0, 0, 0, false, -1, l, d, 77, 0, 0, 0, 0, 0, 0, 0, 0⟩ Th.zero) := by
    have h := names ⟨0, 0, 0, false, -1, l, d, 77, 0, 0, 0, 0, 0, 0, 0, 0⟩ Th.zero 0 0
    refine ⟨fun j v hj => h.σ j v ?_, h.β⟩
    have hlt := (List.getElem?_eq_some_iff.1 hj).1
    show ([0, 0, 0, 0, -1, l, d, 77, 0, 0, 0, 0, 0, 0, 0, 0] ++ [(0 : Int)])[j]? = some v
    rw [List.getElem?_append_left hlt]; exact hj
  refine wp_seqP is1 (wp_seqP is2 (wp_mono (run_norm (C := Cr [] []) hA1' hnn (env0 rfl (fun f hf => by cases hf) (fun p hp => by cases hp)) (by decide) (codeOk_seq (codeOk_seq hcy).1).1 run_r7) fun ex a2 w2 ⟨hex, hA2⟩ => ?_))
  subst hex
  have hA2' : At w (Cr [] []) 139 SL (vals ⟨0, 0, 0, false, -1, l, d, 77, 0, 0, 0, 0, 0, 0, 0, 0⟩ 0) (flags ⟨0, 0, 0, false, -1, l, d, 77, 0, 0, 0, 0, 0, 0, 0, 0⟩) fs a2 w2 := hA2.eq rfl rfl
  refine wp_blkP is3 (wp_loopP is4 (fun n a w' => ∃ (t : Th) (i : Int), n = (50 - i).toNat ∧ (0 ≤ i ∧ i ≤ 50) ∧ refT t = 0 ∧ t.pc = 77 ∧ 0 ≤ t.badge ∧ At w (Cr [] []) 139 SL (vals t i) (flags t) fs a w') (n := 50) ⟨_, 0, rfl, by omega, ?_, rfl, Int.le_refl 0, hA2'⟩ ?_)
  · rw [ref_iff]; simp; omega
  intro n a w' ⟨t, i, hn, hi, ht, hpc, htb, hAt⟩
  -- the loop ends
  have out : ∀ (K : List (Atom × Bool)), (∀ p ∈ K, p.1.den (Env.of (sigM t t i 0) (betM t t) fs) = p.2) → okExit 0 [] [] [] 139 SE (runA (Cr K []) 300 (loopB loop) SL.st) = true → (loopB loop).wp Try.prog (fun e a' w'_1 => (e = Exit.normal ∧ ∃ m, m < n ∧ ∃ (t : Th) (i : Int), m = (50 - i).toNat ∧ (0 ≤ i ∧ i ≤ 50) ∧ refT t = 0 ∧ t.pc = 77 ∧ 0 ≤ t.badge ∧ At w (Cr [] []) 139 SL (vals t i) (flags t) fs a' w'_1) ∨ (e ≠ Exit.normal ∧ Exit.inBlock 0 (Exit.then (Code.wp Try.prog (seqR y) Q) Q) e a' w'_1)) a w' := fun K hK hrun => by
    refine wp_mono (run_exit (C := Cr K []) hAt (names t t i 0) (env0 rfl (fun f hf => by cases hf) hK) (by decide) (codeOk_loop (codeOk_blk (codeOk_seq (codeOk_seq hcy).1).2)) hrun) fun ex a3 w3 ⟨hex, hA3⟩ => ?_
    subst hex
    refine .inr ⟨by simp, ?_⟩
    show if 0 = 0 then (Exit.then (Code.wp Try.prog (seqR y) Q) Q) .normal a3 w3 else (Exit.then (Code.wp Try.prog (seqR y) Q) Q) (.exit 0) a3 w3
    rw [if_pos rfl]
    show Code.wp Try.prog (seqR y) Q a3 w3
    rw [← hQ]
    exact run_end (C := Cr [] []) (σ := fun _ => 0) (β := fun _ => false) hA3 ⟨fun j v h => by simp at h, fun j v h => by simp at h⟩ (env0 rfl (fun f hf => by cases hf) (fun p hp => by cases hp)) (by decide) (codeOk_seq hcy).2 run_rest rfl rfl
  by_cases c0 : i < ((fs 0).len : Int)
  case neg => exact out _ (fun p hp => by simp only [List.mem_singleton] at hp; subst hp; exact decide_eq_false c0) run_out1
  by_cases c1 : i < ((fs 1).len : Int)
  case neg => exact out _ (fun p hp => by
    simp only [List.mem_cons, List.not_mem_nil, or_false] at hp
    rcases hp with rfl | rfl
    · exact decide_eq_true c0
    · exact decide_eq_false c1) run_out2
  by_cases c2 : i < 50
  case neg => exact out _ (fun p hp => by
    simp only [List.mem_cons, List.not_mem_nil, or_false] at hp
    rcases hp with rfl | rfl | rfl
    · exact decide_eq_true c0
    · exact decide_eq_true c1
    · exact decide_eq_false c2) run_out3
  have hi' : 0 ≤ i ∧ i < 50 := ⟨hi.1, c2⟩
  have okDone : ∀ (x : Th), refT x = 0 → x.pc = 77 → 0 ≤ x.badge → (loopB loop).wp Try.prog (fun ex a' w'_1 => ex = .normal ∧ At w (Cr [] []) 139 SL (vals x (i + 1)) (flags x) fs a' w'_1) a w' → (loopB loop).wp Try.prog (fun e a' w'_1 => (e = Exit.normal ∧ ∃ m, m < n ∧ ∃ (t : Th) (i : Int), m = (50 - i).toNat ∧ (0 ≤ i ∧ i ≤ 50) ∧ refT t = 0 ∧ t.pc = 77 ∧ 0 ≤ t.badge ∧ At w (Cr [] []) 139 SL (vals t i) (flags t) fs a' w'_1) ∨ (e ≠ Exit.normal ∧ Exit.inBlock 0 (Exit.then (Code.wp Try.prog (seqR y) Q) Q) e a' w'_1)) a w' := fun x hx hxp hxb h =>
    wp_mono h fun ex a3 w3 ⟨h1, h3⟩ => .inl ⟨h1, (50 - (i + 1)).toNat, by omega, x, i + 1, rfl, by omega, hx, hxp, hxb, h3⟩
  -- one of the four that may fail
  have four : ∀ (k : Int) (f : Nat) (fn : Func) (cd : Code) (p : Th × Int) (us : List Value) (args : List AV), kind fs i = k → Try.prog.funcs[f]? = some fn → fn.body = some cd → flats args = true → (∀ x e, AV.valEs (Env.of (sigM t x i e) (betM t x) fs) args = some us) → Ans Try.prog f us (pairV p) → Fine t p →
      okNorm [0] θx φx 139 SL (runA (Cr (Kk k) [⟨f, args, pairA X (.lit 0)⟩, ⟨13, [X], .int .i64 (.lit 0)⟩]) 300 (loopB loop) SL.st) = true → okNorm [0] (θi inc) φi 139 SL (runA (Cr (Kbad k) [⟨f, args, pairA zeroA (.var 29)⟩]) 300 (loopB loop) SL.st) = true →
      (loopB loop).wp Try.prog (fun e a' w'_1 => (e = Exit.normal ∧ ∃ m, m < n ∧ ∃ (t : Th) (i : Int), m = (50 - i).toNat ∧ (0 ≤ i ∧ i ≤ 50) ∧ refT t = 0 ∧ t.pc = 77 ∧ 0 ≤ t.badge ∧ At w (Cr [] []) 139 SL (vals t i) (flags t) fs a' w'_1) ∨ (e ≠ Exit.normal ∧ Exit.inBlock 0 (Exit.then (Code.wp Try.prog (seqR y) Q) Q) e a' w'_1)) a w' := fun k f fn cd p us args hk hf hb hfa hus ha hfine hrun1 hrun2 => by
    obtain ⟨x, e⟩ := p
    rcases hfine with ⟨h1, h2, h3, h4, h5, h6⟩ | ⟨h1, h2⟩
    · simp only at h1 h2 h3 h4 h5 h6
      subst h1
      exact okDone x h2 (h5.trans hpc) h6 (ok_round t x hi' h3 h4 hAt 0 (facts_ok hf hb hfa (hus x 0) h3 h4 (h5.trans hpc) h2 h6 ha) (know_k hk c0 c1 hi') hrun1)
    · simp only at h1 h2
      subst h2
      exact okDone t ht hpc htb (bad_round t Th.zero hi' hAt e (facts_bad hf hb hfa (hus _ e) ha) (know_bad h1 hk c0 c1 hi') hrun2)
  have hkr : 0 ≤ kind fs i ∧ kind fs i < 5 := mod_range _ _ 5 (by decide) (by decide)
  have hv1 : ∀ (x : Th) (e : Int), AV.valEs (Env.of (sigM t x i e) (betM t x) fs) [TT] = some [.agg t.cells] := fun x e => by simp only [AV.valEs, valTT (fs := fs) (x := x) (i := i) (e := e) hpc]
  have : kind fs i = 0 ∨ kind fs i = 1 ∨ kind fs i = 2 ∨ kind fs i = 3 ∨ kind fs i = 4 := by omega
  rcases this with hk | hk | hk | hk | hk
  · exact four 0 17 Try.f17 _ (StartT t) [.agg t.cells] [TT] hk Try.func17 rfl rfl (fun x e => hv1 x e) (ans_start t htb) (start_fine ht) run_ok0 run_bad0
  · have hst : Ans Try.prog 15 [.agg t.cells] (.agg (stillT t 0).cells) := ans_stop t htb
    refine okDone (stillT t 0) (still_fine ht 0 (by omega)) hpc (Int.le_refl 0) (ok_round (F := Fstop) t (stillT t 0) hi' rfl rfl hAt 0 (fun g hg C hP H => ?_) (know_k hk c0 c1 hi') run_ok1)
    obtain ⟨P, ty, fnn, know, fk, fc, si⟩ := C
    have hP' : P = Try.prog := hP
    subst hP'
    simp only [Fstop, List.mem_cons, List.not_mem_nil, or_false] at hg
    rcases hg with rfl | rfl
    · exact fact_val (C := ⟨Try.prog, ty, fnn, know, fk, fc, si⟩) hprog (fn := Try.f15) (c := _) Try.func15 rfl rfl rfl (hv1 (stillT t 0) 0) (valX (t := t) (x := stillT t 0) rfl rfl hpc) hst H
    · have h0 := ans_check (stillT t 0) (Int.le_refl 0)
      rw [still_fine ht 0 (by omega)] at h0
      exact fact_val (C := ⟨Try.prog, ty, fnn, know, fk, fc, si⟩) hprog (fn := Try.f13) (c := _) Try.func13 rfl rfl rfl (by simp only [AV.valEs, valX (fs := fs) (t := t) (x := stillT t 0) (i := i) (e := 0) rfl rfl hpc]) rfl h0 H
  · have hbb := hbadge i hi.1 c0
    exact four 2 19 Try.f19 _ (BlockT t ((fs 0).cell i.toNat 0) ((fs 0).cell i.toNat 1) ((fs 0).cell i.toNat 2) ((fs 0).cell i.toNat 3 != 0)) [.agg t.cells, .int .i64 ((fs 0).cell i.toNat 0), .int .i64 ((fs 0).cell i.toNat 1), .int .u64 ((fs 0).cell i.toNat 2), .bool ((fs 0).cell i.toNat 3 != 0)] (fnK 2).2 hk Try.func19 rfl rfl (fun x e => by
      show AV.valEs _ [TT, .int .i64 (.elem 0 (.var 16) 0), .int .i64 (.elem 0 (.var 16) 1), .int .u64 (.elem 0 (.var 16) 2), .bool (.elem 0 (.var 16) 3)] = _
      simp only [AV.valEs, valTT hpc]; rfl) (ans_block t _ _ _ _ htb hbb) (block_fine ht _ _ _ _ hbb) run_ok2 run_bad2
  · exact four 3 21 Try.f21 _ (WakeT t fun j => if j = 0 then IntKind.u64.wrap i else 0) [.agg t.cells, regsV fun j => if j = 0 then IntKind.u64.wrap i else 0] (fnK 3).2 hk Try.func21 rfl rfl (fun x e => by
      show AV.valEs _ [TT, .agg [.int .u64 (.app .conv .u64 (.var 16) (.lit 0)), .int .u64 (.lit 0), .int .u64 (.lit 0), .int .u64 (.lit 0), .int .u64 (.lit 0), .int .u64 (.lit 0), .int .u64 (.lit 0), .int .u64 (.lit 0)]] = _
      simp only [AV.valEs, valTT hpc]; rfl) (ans_wake t htb _) (wake_fine ht _) run_ok3 run_bad3
  · exact four 4 10 Try.f10 _ (AskT t ((fs 0).cell i.toNat 4)) [.agg t.cells, .int .i64 ((fs 0).cell i.toNat 4)] (fnK 4).2 hk Try.func10 rfl rfl (fun x e => by
      show AV.valEs _ [TT, .int .i64 (.elem 0 (.var 16) 4)] = _
      simp only [AV.valEs, valTT hpc]; rfl) (ans_ask t htb _) (ask_fine ht htb _) run_ok4 run_bad4
end Right
end Go.Proofs.Ytommhbofncgjaaa.Vm.R20
