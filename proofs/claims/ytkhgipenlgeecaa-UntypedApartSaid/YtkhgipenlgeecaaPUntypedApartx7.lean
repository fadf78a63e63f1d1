-- Out of a turned copy of the kit's print.
import Derived.Test.YtkhgipenlgeecaaPUntypedApartx0
import Derived.Test.YtkhgipenlgeecaaPUntypedApartx1
import Derived.Test.YtkhgipenlgeecaaPUntypedApartx2
import Derived.Test.YtkhgipenlgeecaaPUntypedApartx3
import Derived.Test.YtkhgipenlgeecaaPUntypedApartx4
import Derived.Test.YtkhgipenlgeecaaPUntypedApartx5
import Derived.Test.YtkhgipenlgeecaaPUntypedApartx6
namespace Go.Proofs.Ytkhgipenlgeecaa.PUntypedApart
open Go.RowKit Go.Proofs.YtkhgipenlgeecaaW.PrintWords Go.Proofs.YtkhgipenlgeecaaW.PrintLast Go.Proofs.YtkhgipenlgeecaaW.PrintMore
attribute [local go_sem] max2_int min2_int max_two min_two max_three min_three max_four min_four   -- for this text's walks alone
set_option linter.unusedVariables false
set_option linter.unusedSimpArgs false

attribute [local go_sem high] eqA23
/-! ### donjonlaw06_works: function 38 -/
def donjonlaw06_works.f (k : Nat)  : Option (Bool) := (untyped_Plan.f k 64 6 1 3 0 2).bind fun bt148 => ((untyped_Plan.f k 64 6 48 4 0 1).bind fun bt153 => ((untyped_Plan.f k 64 6 50 3 0 1).bind fun bt158 => ((donjonref03_Same.f k bt148.1 (([(⟨80, 4⟩ : S23), (⟨96, 4⟩ : S23)] : List (S23)))).bind fun t166 => (if t166 = true then (if bt148.2.1 = 48 then (if bt148.2.2 = 0 then ((donjonref03_Same.f k bt153.1 (([(⟨112, 1⟩ : S23)] : List (S23)))).bind fun t170 => (if t170 = true then (if bt153.2.1 = 50 then (if bt153.2.2 = 0 then (if bt158.2.2 = 7 then ((untyped_Left.f 64 6 50).bind fun t171 => (some (t171 == 14))) else (some false)) else (some false)) else (some false)) else (some false))) else (some false)) else (some false)) else (some false)))))
theorem donjonlaw06_works.mono : ∀ k, LeO (donjonlaw06_works.f k ) (donjonlaw06_works.f (k + 1) ) := by
  intro  k
  unfold donjonlaw06_works.f
  repeat' first
      | (with_reducible exact donjonref03_Same.mono _ _ _)
      | (with_reducible exact untyped_Plan.mono _ _ _ _ _ _ _)
      | (with_reducible exact LeO.refl _)
      | (with_reducible exact LeO.none _)
      | (with_reducible refine LeO.ite ?_ ?_)
      | (with_reducible refine LeO.bind ?_ (fun _ => ?_))
      | exact donjonref03_Same.mono _ _ _
      | exact untyped_Plan.mono _ _ _ _ _ _ _
      | exact LeO.none _
      | refine LeO.ite ?_ ?_
      | refine LeO.bind ?_ (fun _ => ?_)
set_option maxHeartbeats 8000000 in
set_option maxRecDepth 100000 in
theorem donjonlaw06_works.calls (k : Nat)  (r : Bool) (w : World) (h : donjonlaw06_works.f k  = some r) (hr : r = true := by rfl) :
    Calls Try.prog 38 #[] w fun e w' => e = .returned (.bool r) ∧ Below w.heap.size w w' := by
  have HR_ := Aside0.mk hr
  clear hr
  have hu23 := Try.underlying23
  have HB := Aside0.mk (Below.refl w.heap.size w)
  have H : ((untyped_Plan.f k 64 6 1 3 0 2).bind fun bt148 => ((untyped_Plan.f k 64 6 48 4 0 1).bind fun bt153 => ((untyped_Plan.f k 64 6 50 3 0 1).bind fun bt158 => ((donjonref03_Same.f k bt148.1 (([(⟨80, 4⟩ : S23), (⟨96, 4⟩ : S23)] : List (S23)))).bind fun t166 => (if t166 = true then (if bt148.2.1 = 48 then (if bt148.2.2 = 0 then ((donjonref03_Same.f k bt153.1 (([(⟨112, 1⟩ : S23)] : List (S23)))).bind fun t170 => (if t170 = true then (if bt153.2.1 = 50 then (if bt153.2.2 = 0 then (if bt158.2.2 = 7 then ((untyped_Left.f 64 6 50).bind fun t171 => (some (t171 == 14))) else (some false)) else (some false)) else (some false)) else (some false))) else (some false)) else (some false)) else (some false)))))) = some r := h
  clear h
  replace H := Option.bind_eq_some_iff.mp H
  obtain ⟨⟨t148, t151, t152⟩, A10, H⟩ := H
  replace H : ((untyped_Plan.f k 64 6 48 4 0 1).bind fun bt153 => ((untyped_Plan.f k 64 6 50 3 0 1).bind fun bt158 => ((donjonref03_Same.f k t148 (([(⟨80, 4⟩ : S23), (⟨96, 4⟩ : S23)] : List (S23)))).bind fun t166 => (if t166 = true then (if t151 = 48 then (if t152 = 0 then ((donjonref03_Same.f k bt153.1 (([(⟨112, 1⟩ : S23)] : List (S23)))).bind fun t170 => (if t170 = true then (if bt153.2.1 = 50 then (if bt153.2.2 = 0 then (if bt158.2.2 = 7 then ((untyped_Left.f 64 6 50).bind fun t171 => (some (t171 == 14))) else (some false)) else (some false)) else (some false)) else (some false))) else (some false)) else (some false)) else (some false))))) = some r := H
  have A1 := Aside0.mk A10
  clear A10
  replace H := Option.bind_eq_some_iff.mp H
  obtain ⟨⟨t153, t156, t157⟩, A20, H⟩ := H
  replace H : ((untyped_Plan.f k 64 6 50 3 0 1).bind fun bt158 => ((donjonref03_Same.f k t148 (([(⟨80, 4⟩ : S23), (⟨96, 4⟩ : S23)] : List (S23)))).bind fun t166 => (if t166 = true then (if t151 = 48 then (if t152 = 0 then ((donjonref03_Same.f k t153 (([(⟨112, 1⟩ : S23)] : List (S23)))).bind fun t170 => (if t170 = true then (if t156 = 50 then (if t157 = 0 then (if bt158.2.2 = 7 then ((untyped_Left.f 64 6 50).bind fun t171 => (some (t171 == 14))) else (some false)) else (some false)) else (some false)) else (some false))) else (some false)) else (some false)) else (some false)))) = some r := H
  have A2 := Aside0.mk A20
  clear A20
  replace H := Option.bind_eq_some_iff.mp H
  obtain ⟨⟨t158, t161, t162⟩, A30, H⟩ := H
  replace H : ((donjonref03_Same.f k t148 (([(⟨80, 4⟩ : S23), (⟨96, 4⟩ : S23)] : List (S23)))).bind fun t166 => (if t166 = true then (if t151 = 48 then (if t152 = 0 then ((donjonref03_Same.f k t153 (([(⟨112, 1⟩ : S23)] : List (S23)))).bind fun t170 => (if t170 = true then (if t156 = 50 then (if t157 = 0 then (if t162 = 7 then ((untyped_Left.f 64 6 50).bind fun t171 => (some (t171 == 14))) else (some false)) else (some false)) else (some false)) else (some false))) else (some false)) else (some false)) else (some false))) = some r := H
  have A3 := Aside0.mk A30
  clear A30
  obtain ⟨y163, hy163⟩ : ∃ y_ : List (S23), y_ = (([(⟨80, 4⟩ : S23), (⟨96, 4⟩ : S23)] : List (S23))) := ⟨_, rfl⟩
  replace H : ((donjonref03_Same.f k t148 y163).bind fun t166 => (if t166 = true then (if t151 = 48 then (if t152 = 0 then ((donjonref03_Same.f k t153 (([(⟨112, 1⟩ : S23)] : List (S23)))).bind fun t170 => (if t170 = true then (if t156 = 50 then (if t157 = 0 then (if t162 = 7 then ((untyped_Left.f 64 6 50).bind fun t171 => (some (t171 == 14))) else (some false)) else (some false)) else (some false)) else (some false))) else (some false)) else (some false)) else (some false))) = some r := by first | (rw [hy163]; with_reducible exact H) | (have H2_ := (Option.bind_some _ _).symm.trans H; rw [hy163]; with_reducible exact H2_) | (have H2_ := (Option.bind_some _ _).symm.trans H; with_reducible exact H2_) | with_reducible exact H | (rw [hy163]; exact H) | exact H
  have Ny163 := Aside0.mk hy163
  clear hy163
  replace H := Option.bind_eq_some_iff.mp H
  obtain ⟨t166, A40, H⟩ := H
  replace H : (if t166 = true then (if t151 = 48 then (if t152 = 0 then ((donjonref03_Same.f k t153 (([(⟨112, 1⟩ : S23)] : List (S23)))).bind fun t170 => (if t170 = true then (if t156 = 50 then (if t157 = 0 then (if t162 = 7 then ((untyped_Left.f 64 6 50).bind fun t171 => (some (t171 == 14))) else (some false)) else (some false)) else (some false)) else (some false))) else (some false)) else (some false)) else (some false)) = some r := H
  have A4 := Aside0.mk A40
  clear A40
  by_cases c5 : t166 = true
  · subst c5
    have H1 : (if t151 = 48 then (if t152 = 0 then ((donjonref03_Same.f k t153 (([(⟨112, 1⟩ : S23)] : List (S23)))).bind fun t170 => (if t170 = true then (if t156 = 50 then (if t157 = 0 then (if t162 = 7 then ((untyped_Left.f 64 6 50).bind fun t171 => (some (t171 == 14))) else (some false)) else (some false)) else (some false)) else (some false))) else (some false)) else (some false)) = some r := by rw [if_pos rfl] at H; exact H
    clear H
    have H := H1
    clear H1
    by_cases c6 : t151 = 48
    · rw [if_pos c6] at H
      have c6b0 : (t151 == 48) = true := beq_iff_eq.mpr c6
      have c6b1 : (t151 != 48) = false := bne_eq_false_iff_eq.mpr c6
      clear c6
      by_cases c7 : t152 = 0
      · rw [if_pos c7] at H
        have c7b0 : (t152 == 0) = true := beq_iff_eq.mpr c7
        have c7b1 : (t152 != 0) = false := bne_eq_false_iff_eq.mpr c7
        clear c7
        obtain ⟨y167, hy167⟩ : ∃ y_ : List (S23), y_ = (([(⟨112, 1⟩ : S23)] : List (S23))) := ⟨_, rfl⟩
        replace H : ((donjonref03_Same.f k t153 y167).bind fun t170 => (if t170 = true then (if t156 = 50 then (if t157 = 0 then (if t162 = 7 then ((untyped_Left.f 64 6 50).bind fun t171 => (some (t171 == 14))) else (some false)) else (some false)) else (some false)) else (some false))) = some r := by first | (rw [hy167]; with_reducible exact H) | (have H2_ := (Option.bind_some _ _).symm.trans H; rw [hy167]; with_reducible exact H2_) | (have H2_ := (Option.bind_some _ _).symm.trans H; with_reducible exact H2_) | with_reducible exact H | (rw [hy167]; exact H) | exact H
        have Ny167 := Aside0.mk hy167
        clear hy167
        replace H := Option.bind_eq_some_iff.mp H
        obtain ⟨t170, A80, H⟩ := H
        replace H : (if t170 = true then (if t156 = 50 then (if t157 = 0 then (if t162 = 7 then ((untyped_Left.f 64 6 50).bind fun t171 => (some (t171 == 14))) else (some false)) else (some false)) else (some false)) else (some false)) = some r := H
        have A8 := Aside0.mk A80
        clear A80
        by_cases c9 : t170 = true
        · subst c9
          have H1 : (if t156 = 50 then (if t157 = 0 then (if t162 = 7 then ((untyped_Left.f 64 6 50).bind fun t171 => (some (t171 == 14))) else (some false)) else (some false)) else (some false)) = some r := by rw [if_pos rfl] at H; exact H
          clear H
          have H := H1
          clear H1
          by_cases c10 : t156 = 50
          · rw [if_pos c10] at H
            have c10b0 : (t156 == 50) = true := beq_iff_eq.mpr c10
            have c10b1 : (t156 != 50) = false := bne_eq_false_iff_eq.mpr c10
            clear c10
            by_cases c11 : t157 = 0
            · rw [if_pos c11] at H
              have c11b0 : (t157 == 0) = true := beq_iff_eq.mpr c11
              have c11b1 : (t157 != 0) = false := bne_eq_false_iff_eq.mpr c11
              clear c11
              by_cases c12 : t162 = 7
              · rw [if_pos c12] at H
                have c12b0 : (t162 == 7) = true := beq_iff_eq.mpr c12
                have c12b1 : (t162 != 7) = false := bne_eq_false_iff_eq.mpr c12
                clear c12
                replace H := Option.bind_eq_some_iff.mp H
                obtain ⟨t171, A130, H⟩ := H
                replace H : (some (t171 == 14)) = some r := H
                have A13 := Aside0.mk A130
                clear A130
                obtain rfl := Option.some.inj H
                go_enter Try.func38, Try.ntmps38
                go_wp2_with (first | ((with_reducible refine gate_dst (N := 1) rfl ?_); (try (refine gate_guard (by rfl) ?_; dsimp only)); refine box_event ?hg (N := 1) ?hd (cs := #[.int .i64 0, .int .i64 0]) (t := 23) ?hr ?_; (case hd => rfl); (case hg => rfl); (case hr => first | (go_simp; done) | (go_simp; rfl)); intro gb147 hg w14 hbox hb; have n0_ := Aside0.mk (below_step (by repeat (first | (with_reducible first | exact HB.out | apply below_alloc | apply pw_below_drewN | apply below_drew1) | exact HB.out)) hb); have n1_ := Aside0.mk (hbox); have n2_ := Aside0.mk ((by rw [hg]; exact (below_size (by repeat (first | (with_reducible first | exact HB.out | apply below_alloc | apply pw_below_drewN | apply below_drew1) | exact HB.out))) : w.heap.size ≤ gb147)); have n3_ := Aside0.mk ((by rw [hg]; exact (below_size (by repeat (first | (with_reducible first | exact HB.out | apply below_alloc | apply pw_below_drewN | apply below_drew1) | exact HB.out))) : w.heap.size ≤ gb147)); clear HB; have HB := n0_; have BK147 := n1_; have GW147 := n2_; have GE147 := n3_; clear n0_ n1_ n2_ n3_; clear hb hbox hg; have hcz15_0 : w14.cell? ⟨gb147, 0, none⟩ = some (.int .i64 0) := (blk_cell BK147.out 0).trans rfl; have hcz15_1 : w14.cell? ⟨gb147, 1, none⟩ = some (.int .i64 0) := (blk_cell BK147.out 1).trans rfl; have hfz15_0 := blk_frozen BK147.out 0; have hfz15_1 := blk_frozen BK147.out 1) | ((with_reducible refine gate_callee (f := 34) rfl ?_); refine goesL_ (some 14) rfl rfl Try.func34 (by kernel_rfl) rfl #[.agg #[.int .i64 64, .int .i64 6], .int .i64 1, .int .i64 3, .int .i64 0, .int .i64 2] rfl (by (try simp only [List.map_toArray, List.map_cons, List.map_nil]); first | done | rfl | (simp only [List.length_drop, List.length_take]; rfl)) ?_; (with_reducible refine (untyped_Plan.calls k 64 6 1 3 0 2 t148 t151 t152 _ A1.out).mono ?_); rintro e w16 ⟨v149, rfl, ho0, hb⟩; refine ⟨_, rfl, ?_⟩; have n0_ := Aside0.mk (Kd.R_lower (Kd.R_newB ho0 (g := gb147) (o := .cells #[.int .i64 64, .int .i64 6] 23 (0, 0)) (by (with_reducible repeat (first | refine blk_drewN ?_ _ | refine blk_drew ?_ | refine blk_alloc ?_ _)); refine blk_put (cs := #[.int .i64 64, .int .i64 0]) ?_ 1 _ rfl; (with_reducible repeat (first | refine blk_drewN ?_ _ | refine blk_drew ?_ | refine blk_alloc ?_ _)); refine blk_put (cs := #[.int .i64 0, .int .i64 0]) ?_ 0 _ rfl; (with_reducible repeat (first | refine blk_drewN ?_ _ | refine blk_drew ?_ | refine blk_alloc ?_ _)); exact BK147.out)) (below_size (by repeat (first | (with_reducible first | exact HB.out | apply below_alloc | apply pw_below_drewN | apply below_drew1 | refine below_set ?_ GE147.out) | exact HB.out)))); have n1_ := Aside0.mk (blk_below (g := gb147) (o := .cells #[.int .i64 64, .int .i64 6] 23 (0, 0)) (by (with_reducible repeat (first | refine blk_drewN ?_ _ | refine blk_drew ?_ | refine blk_alloc ?_ _)); refine blk_put (cs := #[.int .i64 64, .int .i64 0]) ?_ 1 _ rfl; (with_reducible repeat (first | refine blk_drewN ?_ _ | refine blk_drew ?_ | refine blk_alloc ?_ _)); refine blk_put (cs := #[.int .i64 0, .int .i64 0]) ?_ 0 _ rfl; (with_reducible repeat (first | refine blk_drewN ?_ _ | refine blk_drew ?_ | refine blk_alloc ?_ _)); exact BK147.out) hb); have n2_ := Aside0.mk (below_step (by repeat (first | (with_reducible first | exact HB.out | apply below_alloc | apply pw_below_drewN | apply below_drew1 | refine below_set ?_ GE147.out) | exact HB.out)) hb); clear BK147; clear HB; have HO150 := n0_; have BK147 := n1_; have HB := n2_; clear n0_ n1_ n2_; (try clear hb); (try clear hb2); (try clear hk); (try clear hi); (try clear ho0); have hcz17_0 : w16.cell? ⟨gb147, 0, none⟩ = some (.int .i64 64) := (blk_cell BK147.out 0).trans rfl; have hcz17_1 : w16.cell? ⟨gb147, 1, none⟩ = some (.int .i64 6) := (blk_cell BK147.out 1).trans rfl; have hfz17_0 := blk_frozen BK147.out 0; have hfz17_1 := blk_frozen BK147.out 1) | ((with_reducible refine gate_callee (f := 34) rfl ?_); refine goesL_ (some 20) rfl rfl Try.func34 (by kernel_rfl) rfl #[.agg #[.int .i64 64, .int .i64 6], .int .i64 48, .int .i64 4, .int .i64 0, .int .i64 1] rfl (by (try simp only [List.map_toArray, List.map_cons, List.map_nil]); first | done | rfl | (simp only [List.length_drop, List.length_take]; rfl)) ?_; (with_reducible refine (untyped_Plan.calls k 64 6 48 4 0 1 t153 t156 t157 _ A2.out).mono ?_); rintro e w18 ⟨v154, rfl, ho0, hb⟩; refine ⟨_, rfl, ?_⟩; have n0_ := Aside0.mk (Kd.R_elder' (by (with_reducible repeat (first | apply Kd.R_alloc | apply Kd.R_drewN | apply Kd.R_drew)); exact HO150.out) (Kd.R_base ho0) hb); have n1_ := Aside0.mk (Kd.R_lower (Kd.R_newB (Kd.R_new' ho0 (Kd.R_lt (by (with_reducible repeat (first | apply Kd.R_alloc | apply Kd.R_drewN | apply Kd.R_drew)); exact HO150.out))) (g := gb147) (o := .cells #[.int .i64 64, .int .i64 6] 23 (0, 0)) (by (with_reducible repeat (first | refine blk_drewN ?_ _ | refine blk_drew ?_ | refine blk_alloc ?_ _)); exact BK147.out)) (below_size (by repeat (first | (with_reducible first | exact HB.out | apply below_alloc | apply pw_below_drewN | apply below_drew1 | refine below_set ?_ GE147.out) | exact HB.out)))); have n2_ := Aside0.mk (blk_below (g := gb147) (o := .cells #[.int .i64 64, .int .i64 6] 23 (0, 0)) (by (with_reducible repeat (first | refine blk_drewN ?_ _ | refine blk_drew ?_ | refine blk_alloc ?_ _)); exact BK147.out) hb); have n3_ := Aside0.mk (below_step (by repeat (first | (with_reducible first | exact HB.out | apply below_alloc | apply pw_below_drewN | apply below_drew1 | refine below_set ?_ GE147.out) | exact HB.out)) hb); clear HO150; clear BK147; clear HB; have HO150 := n0_; have HO155 := n1_; have BK147 := n2_; have HB := n3_; clear n0_ n1_ n2_ n3_; (try clear hb); (try clear hb2); (try clear hk); (try clear hi); (try clear ho0); have hcz19_0 : w18.cell? ⟨gb147, 0, none⟩ = some (.int .i64 64) := (blk_cell BK147.out 0).trans rfl; have hcz19_1 : w18.cell? ⟨gb147, 1, none⟩ = some (.int .i64 6) := (blk_cell BK147.out 1).trans rfl; have hfz19_0 := blk_frozen BK147.out 0; have hfz19_1 := blk_frozen BK147.out 1) | ((with_reducible refine gate_callee (f := 34) rfl ?_); refine goesL_ (some 26) rfl rfl Try.func34 (by kernel_rfl) rfl #[.agg #[.int .i64 64, .int .i64 6], .int .i64 50, .int .i64 3, .int .i64 0, .int .i64 1] rfl (by (try simp only [List.map_toArray, List.map_cons, List.map_nil]); first | done | rfl | (simp only [List.length_drop, List.length_take]; rfl)) ?_; (with_reducible refine (untyped_Plan.calls k 64 6 50 3 0 1 t158 t161 t162 _ A3.out).mono ?_); rintro e w20 ⟨v159, rfl, ho0, hb⟩; refine ⟨_, rfl, ?_⟩; have n0_ := Aside0.mk (Kd.R_elder' (by (with_reducible repeat (first | apply Kd.R_alloc | apply Kd.R_drewN | apply Kd.R_drew)); exact HO150.out) (Kd.R_base ho0) hb); have n1_ := Aside0.mk (Kd.R_elder' (by (with_reducible repeat (first | apply Kd.R_alloc | apply Kd.R_drewN | apply Kd.R_drew)); exact HO155.out) (Kd.R_base ho0) hb); have n2_ := Aside0.mk (Kd.R_lower (Kd.R_newB (Kd.R_new' (Kd.R_new' ho0 (Kd.R_lt (by (with_reducible repeat (first | apply Kd.R_alloc | apply Kd.R_drewN | apply Kd.R_drew)); exact HO150.out))) (Kd.R_lt (by (with_reducible repeat (first | apply Kd.R_alloc | apply Kd.R_drewN | apply Kd.R_drew)); exact HO155.out))) (g := gb147) (o := .cells #[.int .i64 64, .int .i64 6] 23 (0, 0)) (by (with_reducible repeat (first | refine blk_drewN ?_ _ | refine blk_drew ?_ | refine blk_alloc ?_ _)); exact BK147.out)) (below_size (by repeat (first | (with_reducible first | exact HB.out | apply below_alloc | apply pw_below_drewN | apply below_drew1 | refine below_set ?_ GE147.out) | exact HB.out)))); have n3_ := Aside0.mk (blk_below (g := gb147) (o := .cells #[.int .i64 64, .int .i64 6] 23 (0, 0)) (by (with_reducible repeat (first | refine blk_drewN ?_ _ | refine blk_drew ?_ | refine blk_alloc ?_ _)); exact BK147.out) hb); have n4_ := Aside0.mk (below_step (by repeat (first | (with_reducible first | exact HB.out | apply below_alloc | apply pw_below_drewN | apply below_drew1 | refine below_set ?_ GE147.out) | exact HB.out)) hb); clear HO150; clear HO155; clear BK147; clear HB; have HO150 := n0_; have HO155 := n1_; have HO160 := n2_; have BK147 := n3_; have HB := n4_; clear n0_ n1_ n2_ n3_ n4_; (try clear hb); (try clear hb2); (try clear hk); (try clear hi); (try clear ho0)) | ((with_reducible refine gate_dst (N := 33) rfl ?_); (try (refine gate_guard (by rfl) ?_; dsimp only)); refine Kd.R_lit k23 _ 23 ?hg (N := 33) ?hd (xs := ([(⟨80, 4⟩ : S23), (⟨96, 4⟩ : S23)] : List (S23))) (inner := [.int .i64 80, .int .i64 4, .int .i64 96, .int .i64 4]) (ok := fun _ => True) (okp := fun _ => True) ?hr ?hp (fun _ hk => hk) trivial (Below.refl _ _) (Nat.le_refl _) (by simp) ?_; (case hd => rfl); (case hg => rfl); (case hr => first | (go_simp; done) | (go_simp; rfl)); (case hp => exact (Reps.c2 (show Kd.M k23 _ _ _ (⟨80, 4⟩ : S23) [.int .i64 80, .int .i64 4] from (k23_mkM _ _ _ (⟨80, 4⟩ : S23) )) (Reps.c2 (show Kd.M k23 _ _ _ (⟨96, 4⟩ : S23) [.int .i64 96, .int .i64 4] from (k23_mkM _ _ _ (⟨96, 4⟩ : S23) )) (Reps.none _ _)))); intro v164 w21 ho22 hb hg_ hnew_; clear hg_ hnew_; (first | rw [← Ny163.out] at ho22 | (simp only [Int.reduceToNat] at ho22; rw [← Ny163.out] at ho22)); have n0_ := Aside0.mk (Kd.R_elder' (by (with_reducible repeat (first | apply Kd.R_alloc | apply Kd.R_drewN | apply Kd.R_drew)); exact HO150.out) (Kd.R_base ho22) hb); have n1_ := Aside0.mk (Kd.R_elder' (by (with_reducible repeat (first | apply Kd.R_alloc | apply Kd.R_drewN | apply Kd.R_drew)); exact HO155.out) (Kd.R_base ho22) hb); have n2_ := Aside0.mk (Kd.R_elder' (by (with_reducible repeat (first | apply Kd.R_alloc | apply Kd.R_drewN | apply Kd.R_drew)); exact HO160.out) (Kd.R_base ho22) hb); have n3_ := Aside0.mk (Kd.R_lower (Kd.R_newB (Kd.R_new' (Kd.R_new' (Kd.R_new' ho22 (Kd.R_lt (by (with_reducible repeat (first | apply Kd.R_alloc | apply Kd.R_drewN | apply Kd.R_drew)); exact HO150.out))) (Kd.R_lt (by (with_reducible repeat (first | apply Kd.R_alloc | apply Kd.R_drewN | apply Kd.R_drew)); exact HO155.out))) (Kd.R_lt (by (with_reducible repeat (first | apply Kd.R_alloc | apply Kd.R_drewN | apply Kd.R_drew)); exact HO160.out))) (g := gb147) (o := .cells #[.int .i64 64, .int .i64 6] 23 (0, 0)) (by (with_reducible repeat (first | refine blk_drewN ?_ _ | refine blk_drew ?_ | refine blk_alloc ?_ _)); exact BK147.out)) (below_size (by repeat (first | (with_reducible first | exact HB.out | apply below_alloc | apply pw_below_drewN | apply below_drew1 | refine below_set ?_ GE147.out) | exact HB.out)))); have n4_ := Aside0.mk (blk_below (g := gb147) (o := .cells #[.int .i64 64, .int .i64 6] 23 (0, 0)) (by (with_reducible repeat (first | refine blk_drewN ?_ _ | refine blk_drew ?_ | refine blk_alloc ?_ _)); exact BK147.out) hb); have n5_ := Aside0.mk (below_step (by repeat (first | (with_reducible first | exact HB.out | apply below_alloc | apply pw_below_drewN | apply below_drew1 | refine below_set ?_ GE147.out) | exact HB.out)) hb); clear HO150; clear HO155; clear HO160; clear BK147; clear HB; have HO150 := n0_; have HO155 := n1_; have HO160 := n2_; have HO165 := n3_; have BK147 := n4_; have HB := n5_; clear n0_ n1_ n2_ n3_ n4_ n5_; clear hb ho22; obtain ⟨Ao23, co23, eo23⟩ := Kd.R_slice HO150.out; subst eo23; obtain ⟨Ao24, co24, eo24⟩ := Kd.R_slice HO165.out; subst eo24) | ((with_reducible refine gate_callee (f := 29) rfl ?_); refine goesL_ (some 34) rfl rfl Try.func29 (by kernel_rfl) rfl #[.slice Ao23 t148.length co23, .slice Ao24 y163.length co24] rfl (by (try simp only [List.map_toArray, List.map_cons, List.map_nil]); first | done | rfl | (simp only [List.length_drop, List.length_take]; rfl)) ?_; (with_reducible refine (donjonref03_Same.calls k _ _ t148 _ _ y163 true _ ?side1 ?side2 ?side3 ?side4 A4.out).mono ?_); (case side1 => repeat (first | exact (Kd.R_reads' HO150.out).2.2 | (with_reducible refine Kd.C_alloc ?_ _) | (with_reducible refine Kd.C_drewN ?_ _) | (with_reducible refine Kd.C_drew ?_))); (case side2 => exact (Kd.R_reads' HO150.out).2.1); (case side3 => repeat (first | exact (Kd.R_reads' HO165.out).2.2 | (with_reducible refine Kd.C_alloc ?_ _) | (with_reducible refine Kd.C_drewN ?_ _) | (with_reducible refine Kd.C_drew ?_))); (case side4 => exact (Kd.R_reads' HO165.out).2.1); rintro e w' ⟨rfl, ⟨nd, rfl⟩⟩; refine ⟨_, rfl, ?_⟩) | ((with_reducible refine gate_dst (N := 46) rfl ?_); (try (refine gate_guard (by rfl) ?_; dsimp only)); refine Kd.R_lit k23 _ 23 ?hg (N := 46) ?hd (xs := ([(⟨112, 1⟩ : S23)] : List (S23))) (inner := [.int .i64 112, .int .i64 1]) (ok := fun _ => True) (okp := fun _ => True) ?hr ?hp (fun _ hk => hk) trivial (Below.refl _ _) (Nat.le_refl _) (by simp) ?_; (case hd => rfl); (case hg => rfl); (case hr => first | (go_simp; done) | (go_simp; rfl)); (case hp => exact (Reps.c2 (show Kd.M k23 _ _ _ (⟨112, 1⟩ : S23) [.int .i64 112, .int .i64 1] from (k23_mkM _ _ _ (⟨112, 1⟩ : S23) )) (Reps.none _ _))); intro v168 w25 ho26 hb hg_ hnew_; clear hg_ hnew_; (first | rw [← Ny167.out] at ho26 | (simp only [Int.reduceToNat] at ho26; rw [← Ny167.out] at ho26)); have n0_ := Aside0.mk (Kd.R_elder' (by (with_reducible repeat (first | apply Kd.R_alloc | apply Kd.R_drewN | apply Kd.R_drew)); exact HO150.out) (Kd.R_base ho26) hb); have n1_ := Aside0.mk (Kd.R_elder' (by (with_reducible repeat (first | apply Kd.R_alloc | apply Kd.R_drewN | apply Kd.R_drew)); exact HO155.out) (Kd.R_base ho26) hb); have n2_ := Aside0.mk (Kd.R_elder' (by (with_reducible repeat (first | apply Kd.R_alloc | apply Kd.R_drewN | apply Kd.R_drew)); exact HO160.out) (Kd.R_base ho26) hb); have n3_ := Aside0.mk (Kd.R_elder' (by (with_reducible repeat (first | apply Kd.R_alloc | apply Kd.R_drewN | apply Kd.R_drew)); exact HO165.out) (Kd.R_base ho26) hb); have n4_ := Aside0.mk (Kd.R_lower (Kd.R_newB (Kd.R_new' (Kd.R_new' (Kd.R_new' (Kd.R_new' ho26 (Kd.R_lt (by (with_reducible repeat (first | apply Kd.R_alloc | apply Kd.R_drewN | apply Kd.R_drew)); exact HO150.out))) (Kd.R_lt (by (with_reducible repeat (first | apply Kd.R_alloc | apply Kd.R_drewN | apply Kd.R_drew)); exact HO155.out))) (Kd.R_lt (by (with_reducible repeat (first | apply Kd.R_alloc | apply Kd.R_drewN | apply Kd.R_drew)); exact HO160.out))) (Kd.R_lt (by (with_reducible repeat (first | apply Kd.R_alloc | apply Kd.R_drewN | apply Kd.R_drew)); exact HO165.out))) (g := gb147) (o := .cells #[.int .i64 64, .int .i64 6] 23 (0, 0)) (by (with_reducible repeat (first | refine blk_drewN ?_ _ | refine blk_drew ?_ | refine blk_alloc ?_ _)); exact BK147.out)) (below_size (by repeat (first | (with_reducible first | exact HB.out | apply below_alloc | apply pw_below_drewN | apply below_drew1 | refine below_set ?_ GE147.out) | exact HB.out)))); have n5_ := Aside0.mk (blk_below (g := gb147) (o := .cells #[.int .i64 64, .int .i64 6] 23 (0, 0)) (by (with_reducible repeat (first | refine blk_drewN ?_ _ | refine blk_drew ?_ | refine blk_alloc ?_ _)); exact BK147.out) hb); have n6_ := Aside0.mk (below_step (by repeat (first | (with_reducible first | exact HB.out | apply below_alloc | apply pw_below_drewN | apply below_drew1 | refine below_set ?_ GE147.out) | exact HB.out)) hb); clear HO150; clear HO155; clear HO160; clear HO165; clear BK147; clear HB; have HO150 := n0_; have HO155 := n1_; have HO160 := n2_; have HO165 := n3_; have HO169 := n4_; have BK147 := n5_; have HB := n6_; clear n0_ n1_ n2_ n3_ n4_ n5_ n6_; clear hb ho26; obtain ⟨Ao27, co27, eo27⟩ := Kd.R_slice HO155.out; subst eo27; obtain ⟨Ao28, co28, eo28⟩ := Kd.R_slice HO169.out; subst eo28) | (go_at_call 29; (with_reducible refine (donjonref03_Same.calls k _ _ t153 _ _ y167 true _ ?side1 ?side2 ?side3 ?side4 A8.out).mono ?_); (case side1 => repeat (first | exact (Kd.R_reads' HO155.out).2.2 | (with_reducible refine Kd.C_alloc ?_ _) | (with_reducible refine Kd.C_drewN ?_ _) | (with_reducible refine Kd.C_drew ?_))); (case side2 => exact (Kd.R_reads' HO155.out).2.1); (case side3 => repeat (first | exact (Kd.R_reads' HO169.out).2.2 | (with_reducible refine Kd.C_alloc ?_ _) | (with_reducible refine Kd.C_drewN ?_ _) | (with_reducible refine Kd.C_drew ?_))); (case side4 => exact (Kd.R_reads' HO169.out).2.1); rintro e w' ⟨rfl, ⟨nd, rfl⟩⟩; have hcz29_0 : w25.cell? ⟨gb147, 0, none⟩ = some (.int .i64 64) := (blk_cell BK147.out 0).trans rfl; have hcz29_1 : w25.cell? ⟨gb147, 1, none⟩ = some (.int .i64 6) := (blk_cell BK147.out 1).trans rfl; have hfz29_0 := blk_frozen BK147.out 0; have hfz29_1 := blk_frozen BK147.out 1) | (go_at_call 36; (with_reducible refine (untyped_Left.calls 64 6 50 t171 _ A13.out).mono ?_); rintro e w30 ⟨rfl, hb⟩; have n0_ := Aside0.mk (Kd.R_below (by (with_reducible repeat (first | apply Kd.R_alloc | apply Kd.R_drewN | apply Kd.R_drew)); exact HO150.out) hb); have n1_ := Aside0.mk (Kd.R_below (by (with_reducible repeat (first | apply Kd.R_alloc | apply Kd.R_drewN | apply Kd.R_drew)); exact HO155.out) hb); have n2_ := Aside0.mk (Kd.R_below (by (with_reducible repeat (first | apply Kd.R_alloc | apply Kd.R_drewN | apply Kd.R_drew)); exact HO160.out) hb); have n3_ := Aside0.mk (Kd.R_below (by (with_reducible repeat (first | apply Kd.R_alloc | apply Kd.R_drewN | apply Kd.R_drew)); exact HO165.out) hb); have n4_ := Aside0.mk (Kd.R_below (by (with_reducible repeat (first | apply Kd.R_alloc | apply Kd.R_drewN | apply Kd.R_drew)); exact HO169.out) hb); have n5_ := Aside0.mk (blk_below (g := gb147) (o := .cells #[.int .i64 64, .int .i64 6] 23 (0, 0)) (by (with_reducible repeat (first | refine blk_drewN ?_ _ | refine blk_drew ?_ | refine blk_alloc ?_ _)); exact BK147.out) hb); have n6_ := Aside0.mk (below_step (by repeat (first | (with_reducible first | exact HB.out | apply below_alloc | apply pw_below_drewN | apply below_drew1 | refine below_set ?_ GE147.out) | exact HB.out)) hb); clear HO150; clear HO155; clear HO160; clear HO165; clear HO169; clear BK147; clear HB; have HO150 := n0_; have HO155 := n1_; have HO160 := n2_; have HO165 := n3_; have HO169 := n4_; have BK147 := n5_; have HB := n6_; clear n0_ n1_ n2_ n3_ n4_ n5_ n6_; (try clear hb); (try clear hb2); (try clear hk); (try clear hi)))
                go_ret
                exact ⟨by first | rfl | (simp [errW_none, errW_some] <;> rfl) | (simp [*, errW_none, errW_some] <;> rfl), by repeat (first | (with_reducible first | exact HB.out | apply below_alloc | apply pw_below_drewN | apply below_drew1 | refine below_set ?_ GE147.out) | exact HB.out)⟩
              · rw [if_neg c12] at H
                have c12b0 : (t162 == 7) = false := beq_eq_false_iff_ne.mpr c12
                have c12b1 : (t162 != 7) = true := bne_iff_ne.mpr c12
                exact absurd (H.trans (congrArg some HR_.out)) (by decide)
            · rw [if_neg c11] at H
              have c11b0 : (t157 == 0) = false := beq_eq_false_iff_ne.mpr c11
              have c11b1 : (t157 != 0) = true := bne_iff_ne.mpr c11
              exact absurd (H.trans (congrArg some HR_.out)) (by decide)
          · rw [if_neg c10] at H
            have c10b0 : (t156 == 50) = false := beq_eq_false_iff_ne.mpr c10
            have c10b1 : (t156 != 50) = true := bne_iff_ne.mpr c10
            exact absurd (H.trans (congrArg some HR_.out)) (by decide)
        · replace c9 := Bool.eq_false_iff.mpr c9
          subst c9
          have H1 : (some false) = some r := by rw [if_neg (show ¬ (false = true) by decide)] at H; exact H
          clear H
          have H := H1
          clear H1
          exact absurd (H.trans (congrArg some HR_.out)) (by decide)
      · rw [if_neg c7] at H
        have c7b0 : (t152 == 0) = false := beq_eq_false_iff_ne.mpr c7
        have c7b1 : (t152 != 0) = true := bne_iff_ne.mpr c7
        exact absurd (H.trans (congrArg some HR_.out)) (by decide)
    · rw [if_neg c6] at H
      have c6b0 : (t151 == 48) = false := beq_eq_false_iff_ne.mpr c6
      have c6b1 : (t151 != 48) = true := bne_iff_ne.mpr c6
      exact absurd (H.trans (congrArg some HR_.out)) (by decide)
  · replace c5 := Bool.eq_false_iff.mpr c5
    subst c5
    have H1 : (some false) = some r := by rw [if_neg (show ¬ (false = true) by decide)] at H; exact H
    clear H
    have H := H1
    clear H1
    exact absurd (H.trans (congrArg some HR_.out)) (by decide)

end Go.Proofs.Ytkhgipenlgeecaa.PUntypedApart
