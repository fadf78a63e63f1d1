/- The coder's recovering closure says nothing where nothing has panicked. No condition. -/
import Derived.Test.YtjebljnifeoiaaaGreatTopP
import Derived.Tactics
import Derived.Tactics2
import Derived.Defers
import Derived.Recover
namespace Go.Proofs.YtjebljnifeoiaaaGreat.Vm.Top
open Go Go.Proofs.YtjebljnifeoiaaaGreat.Vm Go.Proofs Go.RowKit
set_option maxRecDepth 100000
set_option linter.unusedSimpArgs false
theorem hsil84 : SilentOk Tryz.prog 84 := by
  refine ⟨⟨_, Tryz.func84, rfl⟩, fun us w => ?_⟩
  refine callsD_of_wpS Tryz.func84 rfl fun c₀ cs hu => ?_
  apply wpS_seq
  apply wpS_region
  simp [wpOpsS, go_sem, recoverD, hu, Tryz.ntmps84, Exit.thenS]
  have h4 : ((us ++ Array.replicate (10 - us.size) undef).setIfInBounds 4 Value.nilIface)[4]? = some .nilIface := by
    rw [Array.getElem?_setIfInBounds]; simp; omega
  have hs : 10 ≤ ((us ++ Array.replicate (10 - us.size) undef).setIfInBounds 4 Value.nilIface).size := by simp; omega
  generalize (us ++ Array.replicate (10 - us.size) undef).setIfInBounds 4 Value.nilIface = b at h4 hs
  refine wpS_of_wp (wp_block (wp_seq (wp_region ?_)))
  simp [wpOps, go_sem, h4, hs, Act.eval, Exit.then, Exit.inBlock, bodyPostS, results]
  refine .inl (wp_cond (t := true) ?_ ?_)
  · simp [Act.eval, show 6 < b.size by omega]
  · simp only [if_true]
    refine wp_region ?_
    have h6 : (b.setIfInBounds 6 (Value.bool true))[4]? = some .nilIface := by rw [Array.getElem?_setIfInBounds_ne (by decide)]; exact h4
    simp [wpOps, go_sem, h6, Act.eval, Exit.then, Exit.inBlock, ← hu]
end Go.Proofs.YtjebljnifeoiaaaGreat.Vm.Top
