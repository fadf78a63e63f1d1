/- The kernel's program over the machine: the context. No condition. -/
import Derived.Test.YtjebljnifeoiaaaGreatTopS
import Derived.Test.YtjebljnifeoiaaaGreatVmTree
namespace Go.Proofs.YtjebljnifeoiaaaGreat.Vm.Top
open Go Go.Proofs.YtjebljnifeoiaaaGreat.Vm Go.Proofs Go.RowKit
set_option maxRecDepth 1000000
noncomputable def C0 : Ctx := Ctx.mk' Tryz.prog [] [] [] [84]
theorem hC : CtxOk C0 := CtxOk.mk' _ _ _ _ _
theorem hsil (f : Nat) (h : ([84] : List Nat).contains f = true) : SilentOk Tryz.prog f := by
  simp at h; subst h; exact hsil84
theorem facts0 {σ : Nat → Int} {β : Nat → Bool} {fs : Nat → FS} (K : List (Atom × Bool)) : FactsOk (C0.more K) (Env.of σ β fs) := fun x hx => by cases hx
end Go.Proofs.YtjebljnifeoiaaaGreat.Vm.Top
