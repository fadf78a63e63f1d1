/- The machine's operations that read alone leave its heap as it is. No condition but those each theorem names. -/
import Derived.Test.YtjebljnifeoiaaaGreatVmFrame
namespace Go.Proofs.YtjebljnifeoiaaaGreat.Vm
open Go
set_option linter.unusedVariables false
set_option linter.unusedSimpArgs false
/-- A value comes of it with no other heap than H. -/
def Keeps (H : Heap) (r : R) : Prop := ∀ v H', r = .val v H' → H' = H
section
variable {H : Heap} {C : Ctx} {τ : Tm}
theorem Keeps.bad (n : Nat) : Keeps H (.bad n) := fun v H' h => by cases h
theorem Keeps.ask (a : Atom) : Keeps H (.ask a) := fun v H' h => by cases h
theorem Keeps.val (v : AV) : Keeps H (.val v H) := fun v H' h => by injection h with _ h; exact h.symm
theorem Keeps.some {α : Type} {o : Option α} {no : R} {κ : α → R} (h : Keeps H no) (k : ∀ a, Keeps H (κ a)) : Keeps H (onSome o no κ) := by
  cases o
  · exact h
  · exact k _
theorem Keeps.ife {b : Bool} {x y : R} (h : Keeps H x) (k : Keeps H y) : Keeps H (ife b x y) := by
  cases b
  · exact k
  · exact h
theorem Keeps.forceN {n : Nat} {κ : Nat → R} (k : ∀ a, Keeps H (κ a)) : Keeps H (forceN n κ) := by rw [forceN_eq]; exact k _
theorem Keeps.forceI {n : Int} {κ : Int → R} (k : ∀ a, Keeps H (κ a)) : Keeps H (forceI n κ) := by rw [forceI_eq]; exact k _
theorem Keeps.takeK : ∀ (k : Nat) (l : List AV) {no : R} {κ : List AV → R}, Keeps H no → (∀ a, Keeps H (κ a)) → Keeps H (takeK k l no κ)
  | 0, l, no, κ, h, hk => hk _
  | k + 1, [], no, κ, h, hk => h
  | k + 1, a :: l, no, κ, h, hk => Keeps.takeK k l h fun r => hk (a :: r)
theorem Keeps.takeN : ∀ (k : Nat) (l : List Nat) {no : R} {κ : List Nat → R}, Keeps H no → (∀ a, Keeps H (κ a)) → Keeps H (takeN k l no κ)
  | 0, l, no, κ, h, hk => hk _
  | k + 1, [], no, κ, h, hk => h
  | k + 1, a :: l, no, κ, h, hk => Keeps.takeN k l h fun r => hk (a :: r)
theorem Keeps.ext : ∀ (c : BT) (o n : Nat) {no : R} {κ : List AV → R}, Keeps H no → (∀ a, Keeps H (κ a)) → Keeps H (c.ext o n no κ)
  | .leaf l, o, n, no, κ, h, hk => Keeps.takeK n _ h hk
  | .node m a b, o, n, no, κ, h, hk => by
    show Keeps H (Vm.ife (Nat.ble (Nat.add o n) m) (a.ext o n no κ) (Vm.ife (Nat.ble m o) (b.ext (Nat.sub o m) n no κ)
      (a.ext o (Nat.sub m o) no (fun x => b.ext 0 (Nat.sub (Nat.add o n) m) no (fun y => appK x y κ)))))
    refine .ife (Keeps.ext a o n h hk) (.ife (Keeps.ext b _ n h hk) (Keeps.ext a o _ h fun x => Keeps.ext b 0 _ h fun y => ?_))
    rw [appK_eq]; exact hk _
theorem Keeps.boolX (neg : Bool) (a : Atom) (o : Option Bool) : Keeps H (boolX neg a o H) := .some (.ask _) fun _ => .val _
theorem Keeps.intX (f : IOp) (k : IntKind) (a b : SI) : Keeps H (intX f k a b H) := .some (.val _) fun _ => .some (.val _) fun _ => .forceI fun _ => .val _
theorem Keeps.notER (x : R) (neg : Bool) : Keeps H (notER x neg H) := by
  cases x <;> first | exact .bad _ | exact .ask _ | exact .val _
theorem Keeps.eqX (neg : Bool) (t : Nat) (x y : Operand) (a b : AV) : Keeps H (eqX C H neg t x y a b) := .ife (.notER _ _) (.bad _)
theorem Keeps.intBin (op : BinOp) (k : IntKind) (a b : SI) : Keeps H (intBin op k a b C H) := by
  cases op <;> first | exact Keeps.intX _ _ _ _ | exact Keeps.boolX _ _ _ | exact .ife (Keeps.intX _ _ _ _) (.bad _)
theorem Keeps.strBin (op : BinOp) (a b : List Nat) : Keeps H (strBin op a b H) := by
  cases op <;> first | exact .bad _ | exact .val _
theorem Keeps.anyBin (op : BinOp) (t : Nat) (x y : Operand) (a b : AV) : Keeps H (anyBin op C H t x y a b) := by
  cases op <;> first | exact .bad _ | exact .eqX _ _ _ _ _ _
theorem Keeps.bin (op : BinOp) (t : Nat) (x y : Operand) : Keeps H (xBin op t x y C τ H) :=
  .some (.bad _) fun _ => .some (.bad _) fun _ => .some (.some (.anyBin _ _ _ _ _ _) fun _ => .some (.bad _) fun _ => .strBin _ _ _) fun _ => .some (.bad _) fun _ => .ife (.intBin _ _ _ _) (.bad _)
theorem Keeps.loadF (t s : Nat) (i : SI) (j : Nat) : Keeps H (xLoadF t s i j C H) :=
  .some (.bad _) fun _ => .some (.bad _) fun _ => .some (.some (.bad _) fun _ => .val _) fun _ => .some (.bad _) fun _ => .ife (.val _) (.bad _)
theorem Keeps.load (t : Nat) (x : Operand) : Keeps H (xLoad t x C τ H) :=
  .some (.bad _) fun _ => .some (.some (.bad _) fun _ => .loadF _ _ _ _) fun _ => .some (.bad _) fun _ => .some (.bad _) fun _ => .some (.bad _) fun _ => .ife (.ext _ _ _ (.bad _) fun _ => .val _) (.some (.bad _) fun _ => .val _)
theorem Keeps.findA (k : AV) {bad no : R} {at_ : Nat → AV → R} (h1 : Keeps H bad) (h2 : Keeps H no) (h3 : ∀ i v, Keeps H (at_ i v)) : ∀ (l : List (AV × AV)) (i : Nat), Keeps H (findA l k i bad no at_)
  | [], _ => h2
  | p :: l, i => .some h1 fun q => .ife (h3 _ _) (Keeps.findA k h1 h2 h3 l (Nat.succ i))
theorem Keeps.lookup (t : Nat) (x ix : Operand) (ok : Bool) : Keeps H (xLookup t x ix ok C τ H) :=
  .some (.bad _) fun _ => .some (.bad _) fun _ => .some (.bad _) fun _ => .some (.bad _) fun _ => .some (.bad _) fun _ => .ife
    (.some (.some (.bad _) fun _ => .some (.bad _) fun _ => .val _) fun _ => .some (.bad _) fun _ => .some (.bad _) fun _ => .findA _ (.bad _) (.some (.bad _) fun _ => .val _) (fun _ _ => .val _) _ _) (.bad _)
theorem Keeps.convPtr (s d : TInf) (v : AV) : Keeps H (convPtr s d C v H) :=
  .some (.some (.bad _) fun _ => .some (.bad _) fun _ => .some (.some (.bad _) fun _ => .val _) fun _ => .some (.bad _) fun _ => .some (.bad _) fun _ => .some (.bad _) fun _ => .ife (.ife (.val _) (.bad _)) (.bad _))
    fun _ => .some (.bad _) fun _ => .some (.some (.bad _) fun _ => .val _) fun _ => .some (.bad _) fun _ => .some (.bad _) fun _ => .some (.bad _) fun _ => .ife (.ife (.ife (.val _) (.bad _)) (.bad _)) (.bad _)
theorem Keeps.convert (s d : Nat) (x : Operand) : Keeps H (xConvert s d x C τ H) :=
  .some (.bad _) fun _ => .some (.bad _) fun _ => .some (.bad _) fun _ => .some (.some (.convPtr _ _ _) fun _ => .some (.bad _) fun _ => .val _) fun _ => .some (.bad _) fun _ => .intX _ _ _ _
theorem Keeps.entry (x : Operand) : Keeps H (xEntry x C τ H) :=
  .some (.bad _) fun _ => .some (.bad _) fun _ => .ife (.some (.bad _) fun _ => .ife (.some (.bad _) fun _ => .val _) (.bad _)) (.bad _)
theorem Keeps.onNat {e : SI} {no : R} {κ : Nat → R} (h : Keeps H no) (k : ∀ a, Keeps H (κ a)) : Keeps H (onNat e no κ) :=
  .some h fun n => by cases n <;> first | exact k _ | exact h
theorem Keeps.evOpt {o : Option Operand} {no : R} {κ : Option Nat → R} (h : Keeps H no) (k : ∀ a, Keeps H (κ a)) : Keeps H (evOpt τ o no κ) :=
  .some (k _) fun _ => .some h fun _ => .some h fun _ => .onNat h fun _ => k _
theorem Keeps.sliceArr (b o n esz l h m : Nat) : Keeps H (sliceArr b o n esz l h m H) :=
  .ife (.ife (.ife (.ife (.forceN fun _ => .forceN fun _ => .forceN fun _ => .val _) (.bad _)) (.bad _)) (.bad _)) (.bad _)
theorem Keeps.sliceArrB (b o n esz l h m : Nat) : Keeps H (sliceArrB b o n esz l h m H) :=
  .some (.bad _) fun _ => .some (.bad _) fun _ => .some (.bad _) fun _ => .ife (.sliceArr _ _ _ _ _ _ _) (.bad _)
theorem Keeps.sliceSlc (b o cap : Nat) (ex : Bool) (esz l h : Nat) : Keeps H (sliceSlc b o cap ex esz l h H) :=
  .ife (.ife (.ife (.forceN fun _ => .forceN fun _ => .forceN fun _ => .val _) (.ife (.val _) (.forceN fun _ => .val _))) (.bad _)) (.bad _)
theorem Keeps.sliceStr (s : List Nat) (l : Nat) (hi mx : Option Nat) : Keeps H (sliceStr s l hi mx H) :=
  .some (.forceN fun _ => .ife (.ife (.takeN _ _ (.bad _) fun _ => .val _) (.bad _)) (.bad _)) fun _ => .bad _
theorem Keeps.slice (t : Nat) (x : Operand) (lo hi mx : Option Operand) : Keeps H (xSlice t x lo hi mx C τ H) :=
  .some (.bad _) fun _ => .evOpt (.bad _) fun _ => .evOpt (.bad _) fun _ => .evOpt (.bad _) fun _ => .some (.bad _) fun _ => .some (.some (.some (.bad _) fun _ => .some (.bad _) fun _ => .ife
    (.some (.some (.bad _) fun _ => .ife (.ife (.ife (.some (.val _) fun _ => .some (.bad _) fun _ => .val _) (.bad _)) (.bad _)) (.bad _)) fun _ => .ife (.some (.sliceSlc _ _ _ _ _ _ _) fun _ => .some (.bad _) fun _ => .sliceArr _ _ _ _ _ _ _) (.bad _)) (.bad _))
    fun _ => .some (.bad _) fun _ => .some (.bad _) fun _ => .some (.sliceArrB _ _ _ _ _ _ _) fun _ => .some (.bad _) fun _ => .sliceArrB _ _ _ _ _ _ _) fun _ => .some (.bad _) fun _ => .sliceStr _ _ _ _
theorem Keeps.retN (n : Nat) : Keeps H (retN H n) := .val _
theorem Keeps.lenSlice (x : AV) : Keeps H (lenSlice x C H) := .some (.some (.some (.some (.bad _) fun _ => .some (.bad _) fun _ => .val _) fun _ => .val _) fun _ => .val _) fun _ => .val _
theorem Keeps.lenMap (x : AV) : Keeps H (lenMap x H) := .some (.some (.bad _) fun _ => .val _) fun _ => .some (.bad _) fun _ => .some (.bad _) fun _ => .forceN fun _ => .val _
theorem Keeps.lenChan (x : AV) : Keeps H (lenChan x H) := .some (.some (.bad _) fun _ => .val _) fun _ => .some (.bad _) fun _ => .some (.bad _) fun _ => .forceN fun _ => .val _
theorem Keeps.len (t : Nat) (x : AV) : Keeps H (xLen t x C H) := .some (.bad _) fun i => by
  obtain ⟨d⟩ := i
  show Keeps H (lenD d x C H)
  cases d <;> first | exact .bad _ | exact .lenSlice _ | exact .lenMap _ | exact .lenChan _ | exact .val _ | exact .some (.bad _) fun _ => .forceN fun _ => .val _ | exact .some (.bad _) fun _ => .some (.bad _) fun _ => .val _
theorem Keeps.cap (t : Nat) (x : AV) : Keeps H (xCap t x C H) := .some (.bad _) fun _ => .some (.some (.bad _) fun _ => .some (.some (.bad _) fun _ => .val _) fun _ => .ife (.val _) (.bad _)) fun _ => .val _
theorem Keeps.list {α : Type} {l : List α} {no : R} {κ : α → List α → R} (h : Keeps H no) (k : ∀ a t, Keeps H (κ a t)) : Keeps H (onList l no κ) := by
  cases l
  · exact h
  · exact k _ _
theorem Keeps.out {x : R} (h : Keeps H x) : Keeps H (crOut x .val) := fun v H' e => h v H' (crOut_val e)
theorem reader_keeps {op : Op} (h : isReader op = true) : Keeps H (exec op C τ H) := by
  cases op <;> try (exact Bool.noConfusion h)
  case load t x => exact .out (.load _ _)
  case lookup t x ix ok => exact .out (.lookup _ _ _ _)
  case binOp op t x y k => exact .out (.bin _ _ _ _)
  case convert s d x => exact .out (.convert _ _ _)
  case entry x => exact .out (.entry _)
  case slice t x lo hi mx => exact .out (.slice _ _ _ _ _)
  case call c =>
    obtain ⟨callee⟩ := c
    cases callee <;> try (exact Bool.noConfusion h)
    case builtin b =>
      refine .some (.bad _) fun args => .out ?_
      cases b <;> try (exact Bool.noConfusion h)
      · exact .list (.bad _) fun _ _ => .list (.bad _) fun _ _ => .list (.cap _ _) fun _ _ => .bad _
      · exact .list (.bad _) fun _ _ => .list (.bad _) fun _ _ => .list (.len _ _) fun _ _ => .bad _
end
end Go.Proofs.YtjebljnifeoiaaaGreat.Vm
