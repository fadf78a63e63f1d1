/- A machine that goes through the program's operations over a heap of its own, so that the kernel can reckon a call: the definitions. No condition. -/
import GoSem.Dispatch
import Derived.Control
import Derived.Orders
namespace Go.Proofs.YtjebljnifeoiaaaGreat.Vm
open Go
set_option linter.unusedVariables false

/-! ### Tables by number; the ways to take things apart (each arm closed, so that little is written anew) -/
inductive Tr (α : Type) where
  | e
  | n (v : Option α) (l r : Tr α)
noncomputable def ife {β : Type} (b : Bool) (x y : β) : β := Bool.rec y x b
noncomputable def onSome {α β : Type} (o : Option α) : β → (α → β) → β := Option.rec (fun no _ => no) (fun a _ κ => κ a) o
noncomputable def onList {α β : Type} (l : List α) : β → (α → List α → β) → β := List.rec (fun no _ => no) (fun a t _ _ κ => κ a t) l
noncomputable def Tr.get {α : Type} (t : Tr α) : Nat → Option α :=
  Tr.rec (fun _ => none) (fun v _ _ il ir k => ife (Nat.beq k 0) v (ife (Nat.beq (Nat.mod k 2) 1) (il (Nat.div k 2)) (ir (Nat.sub (Nat.div k 2) 1)))) t
noncomputable def Tr.sing {α : Type} (a : Option α) (f : Nat) : Nat → Tr α :=
  Nat.rec (fun _ => .e) (fun _ ih k => ife (Nat.beq k 0) (.n a .e .e) (ife (Nat.beq (Nat.mod k 2) 1) (.n none (ih (Nat.div k 2)) .e) (.n none .e (ih (Nat.sub (Nat.div k 2) 1))))) f
noncomputable def Tr.set {α : Type} (t : Tr α) : Nat → Option α → Tr α :=
  Tr.rec (motive := fun _ => Nat → Option α → Tr α) (fun k a => Tr.sing a 64 k)
    (fun v l r il ir k a => ife (Nat.beq k 0) (.n a l r) (ife (Nat.beq (Nat.mod k 2) 1) (.n v (il (Nat.div k 2) a) r) (.n v l (ir (Nat.sub (Nat.div k 2) 1) a)))) t
noncomputable def Tr.tab {α : Type} (f : Nat) : (Nat → α) → Tr α :=
  Nat.rec (fun _ => .e) (fun _ ih g => .n (some (g 0)) (ih (fun q => g (Nat.add (Nat.mul 2 q) 1))) (ih (fun q => g (Nat.add (Nat.mul 2 q) 2)))) f
noncomputable def nth {α : Type} (l : List α) : Nat → Option α :=
  List.rec (fun _ => none) (fun a _ ih k => Nat.rec (some a) (fun k' _ => ih k') k) l
noncomputable def dropL {α : Type} (k : Nat) : List α → List α :=
  Nat.rec (fun l => l) (fun _ ih l => List.rec [] (fun _ t _ => ih t) l) k
noncomputable def lenL {α : Type} (l : List α) : Nat := List.rec 0 (fun _ _ ih => Nat.succ ih) l
/-! ### Values -/
inductive IOp where
  | add | sub | mul | quo | rem | and | or | xor | andNot | shl | shr | conv
/-- A number: known, or one that is named. -/
inductive SI where
  | lit (n : Int)
  | var (i : Nat)
  | app (f : IOp) (k : IntKind) (a b : SI)
  | elem (s : Nat) (i : SI) (j : Nat)
  | len (s : Nat)
inductive SB where
  | lit (b : Bool)
  | var (i : Nat)
  | elem (s : Nat) (i : SI) (j : Nat)
/-- A value; blocks have numbers of the machine's own. 'slc': block, place, length, capacity (or a bound below it), is it known?, cells of an element. 'etl': the empty end of a slice. 'fsl', 'fpt': a slice that came in, a place in it. -/
inductive AV where
  | int (k : IntKind) (e : SI)
  | bool (b : SB)
  | str (l : List Nat)
  | ptr (b o : Nat)
  | nil
  | slc (b o len lo : Nat) (ex : Bool) (esz : Nat)
  | etl (b o1 o2 esz : Nat)
  | nils
  | map (b : Nat)
  | nilm
  | chan (b : Nat)
  | nilc
  | fn (f : Nat) (cs : List AV)
  | nilf
  | iface (t : Nat) (v : AV)
  | nili
  | agg (cs : List AV)
  | tup (vs : List AV)
  | fsl (s : Nat)
  | fpt (s : Nat) (i : SI) (j : Nat)
noncomputable def AV.undef : AV := .tup []
inductive BT where
  | leaf (l : List AV)
  | node (m : Nat) (a b : BT)
inductive Blk where
  | cells (t : Nat) (ex : Bool) (c : BT)
  | map (es : List (AV × AV))
  | chan (cap : Nat) (buf : List AV)
/-- An iterator over a map, and where it stands. -/
structure It where
  b : Nat
  m : Nat
  e : Option (AV × AV)
/-- Blocks of one's own; blocks that are read alone; the next number, and the last one; the iterator. -/
structure Heap where
  tr : Tr Blk
  ro : Tr Blk
  next : Nat
  lim : Nat
  it : Option It
inductive Atom where
  | lt (a b : SI)
  | eq (a b : SI)
  | bool (b : SB)
structure St where
  τ : Tr AV
  H : Heap
  ds : List (AV × List AV)
/-- What comes of an operation, a test, a call, code. -/
inductive R where
  | val (v : AV) (H : Heap)
  | call (f : Nat) (args : List AV)
  | dfr (v : AV) (args : List AV)
  | sel (v : AV) (H : Heap)
  | yes (b : Bool)
  | bad (n : Nat)
  | ask (a : Atom)
  | norm (s : St)
  | exit (i : Nat) (s : St)
  | goto (l : Nat) (s : St)
  | ret (s : St)
noncomputable def AV.asInt (v : AV) : Option (IntKind × SI) := AV.rec (motive_1 := fun _ => Option (IntKind × SI)) (motive_2 := fun _ => Unit) (fun x0 x1 => some (x0, x1)) (fun _ => none) (fun _ => none) (fun _ _ => none) none (fun _ _ _ _ _ _ => none) (fun _ _ _ _ => none) none (fun _ => none) none (fun _ => none) none (fun _ _ _ => none) none (fun _ _ _ => none) none (fun _ _ => none) (fun _ _ => none) (fun _ => none) (fun _ _ _ => none) () (fun _ _ _ _ => ()) v
noncomputable def AV.onInt {β : Type} (v : AV) (no : β) (κ : IntKind → SI → β) : β := onSome v.asInt no fun p => κ p.1 p.2
noncomputable def AV.asBool (v : AV) : Option (SB) := AV.rec (motive_1 := fun _ => Option (SB)) (motive_2 := fun _ => Unit) (fun _ _ => none) (fun x0 => some x0) (fun _ => none) (fun _ _ => none) none (fun _ _ _ _ _ _ => none) (fun _ _ _ _ => none) none (fun _ => none) none (fun _ => none) none (fun _ _ _ => none) none (fun _ _ _ => none) none (fun _ _ => none) (fun _ _ => none) (fun _ => none) (fun _ _ _ => none) () (fun _ _ _ _ => ()) v
noncomputable def AV.onBool {β : Type} (v : AV) (no : β) (κ : SB → β) : β := onSome v.asBool no fun p => κ p
noncomputable def AV.asStr (v : AV) : Option ((List Nat)) := AV.rec (motive_1 := fun _ => Option ((List Nat))) (motive_2 := fun _ => Unit) (fun _ _ => none) (fun _ => none) (fun x0 => some x0) (fun _ _ => none) none (fun _ _ _ _ _ _ => none) (fun _ _ _ _ => none) none (fun _ => none) none (fun _ => none) none (fun _ _ _ => none) none (fun _ _ _ => none) none (fun _ _ => none) (fun _ _ => none) (fun _ => none) (fun _ _ _ => none) () (fun _ _ _ _ => ()) v
noncomputable def AV.onStr {β : Type} (v : AV) (no : β) (κ : List Nat → β) : β := onSome v.asStr no fun p => κ p
noncomputable def AV.asPtr (v : AV) : Option (Nat × Nat) := AV.rec (motive_1 := fun _ => Option (Nat × Nat)) (motive_2 := fun _ => Unit) (fun _ _ => none) (fun _ => none) (fun _ => none) (fun x0 x1 => some (x0, x1)) none (fun _ _ _ _ _ _ => none) (fun _ _ _ _ => none) none (fun _ => none) none (fun _ => none) none (fun _ _ _ => none) none (fun _ _ _ => none) none (fun _ _ => none) (fun _ _ => none) (fun _ => none) (fun _ _ _ => none) () (fun _ _ _ _ => ()) v
noncomputable def AV.onPtr {β : Type} (v : AV) (no : β) (κ : Nat → Nat → β) : β := onSome v.asPtr no fun p => κ p.1 p.2
noncomputable def AV.asNil (v : AV) : Option (Unit) := AV.rec (motive_1 := fun _ => Option (Unit)) (motive_2 := fun _ => Unit) (fun _ _ => none) (fun _ => none) (fun _ => none) (fun _ _ => none) (some ()) (fun _ _ _ _ _ _ => none) (fun _ _ _ _ => none) none (fun _ => none) none (fun _ => none) none (fun _ _ _ => none) none (fun _ _ _ => none) none (fun _ _ => none) (fun _ _ => none) (fun _ => none) (fun _ _ _ => none) () (fun _ _ _ _ => ()) v
noncomputable def AV.onNil {β : Type} (v : AV) (no : β) (κ : β) : β := onSome v.asNil no fun p => κ
noncomputable def AV.asSlc (v : AV) : Option (Nat × Nat × Nat × Nat × Bool × Nat) := AV.rec (motive_1 := fun _ => Option (Nat × Nat × Nat × Nat × Bool × Nat)) (motive_2 := fun _ => Unit) (fun _ _ => none) (fun _ => none) (fun _ => none) (fun _ _ => none) none (fun x0 x1 x2 x3 x4 x5 => some (x0, x1, x2, x3, x4, x5)) (fun _ _ _ _ => none) none (fun _ => none) none (fun _ => none) none (fun _ _ _ => none) none (fun _ _ _ => none) none (fun _ _ => none) (fun _ _ => none) (fun _ => none) (fun _ _ _ => none) () (fun _ _ _ _ => ()) v
noncomputable def AV.onSlc {β : Type} (v : AV) (no : β) (κ : Nat → Nat → Nat → Nat → Bool → Nat → β) : β := onSome v.asSlc no fun p => κ p.1 p.2.1 p.2.2.1 p.2.2.2.1 p.2.2.2.2.1 p.2.2.2.2.2
noncomputable def AV.asEtl (v : AV) : Option (Nat × Nat × Nat × Nat) := AV.rec (motive_1 := fun _ => Option (Nat × Nat × Nat × Nat)) (motive_2 := fun _ => Unit) (fun _ _ => none) (fun _ => none) (fun _ => none) (fun _ _ => none) none (fun _ _ _ _ _ _ => none) (fun x0 x1 x2 x3 => some (x0, x1, x2, x3)) none (fun _ => none) none (fun _ => none) none (fun _ _ _ => none) none (fun _ _ _ => none) none (fun _ _ => none) (fun _ _ => none) (fun _ => none) (fun _ _ _ => none) () (fun _ _ _ _ => ()) v
noncomputable def AV.onEtl {β : Type} (v : AV) (no : β) (κ : Nat → Nat → Nat → Nat → β) : β := onSome v.asEtl no fun p => κ p.1 p.2.1 p.2.2.1 p.2.2.2
noncomputable def AV.asNils (v : AV) : Option (Unit) := AV.rec (motive_1 := fun _ => Option (Unit)) (motive_2 := fun _ => Unit) (fun _ _ => none) (fun _ => none) (fun _ => none) (fun _ _ => none) none (fun _ _ _ _ _ _ => none) (fun _ _ _ _ => none) (some ()) (fun _ => none) none (fun _ => none) none (fun _ _ _ => none) none (fun _ _ _ => none) none (fun _ _ => none) (fun _ _ => none) (fun _ => none) (fun _ _ _ => none) () (fun _ _ _ _ => ()) v
noncomputable def AV.onNils {β : Type} (v : AV) (no : β) (κ : β) : β := onSome v.asNils no fun p => κ
noncomputable def AV.asMap (v : AV) : Option (Nat) := AV.rec (motive_1 := fun _ => Option (Nat)) (motive_2 := fun _ => Unit) (fun _ _ => none) (fun _ => none) (fun _ => none) (fun _ _ => none) none (fun _ _ _ _ _ _ => none) (fun _ _ _ _ => none) none (fun x0 => some x0) none (fun _ => none) none (fun _ _ _ => none) none (fun _ _ _ => none) none (fun _ _ => none) (fun _ _ => none) (fun _ => none) (fun _ _ _ => none) () (fun _ _ _ _ => ()) v
noncomputable def AV.onMap {β : Type} (v : AV) (no : β) (κ : Nat → β) : β := onSome v.asMap no fun p => κ p
noncomputable def AV.asNilm (v : AV) : Option (Unit) := AV.rec (motive_1 := fun _ => Option (Unit)) (motive_2 := fun _ => Unit) (fun _ _ => none) (fun _ => none) (fun _ => none) (fun _ _ => none) none (fun _ _ _ _ _ _ => none) (fun _ _ _ _ => none) none (fun _ => none) (some ()) (fun _ => none) none (fun _ _ _ => none) none (fun _ _ _ => none) none (fun _ _ => none) (fun _ _ => none) (fun _ => none) (fun _ _ _ => none) () (fun _ _ _ _ => ()) v
noncomputable def AV.onNilm {β : Type} (v : AV) (no : β) (κ : β) : β := onSome v.asNilm no fun p => κ
noncomputable def AV.asChan (v : AV) : Option (Nat) := AV.rec (motive_1 := fun _ => Option (Nat)) (motive_2 := fun _ => Unit) (fun _ _ => none) (fun _ => none) (fun _ => none) (fun _ _ => none) none (fun _ _ _ _ _ _ => none) (fun _ _ _ _ => none) none (fun _ => none) none (fun x0 => some x0) none (fun _ _ _ => none) none (fun _ _ _ => none) none (fun _ _ => none) (fun _ _ => none) (fun _ => none) (fun _ _ _ => none) () (fun _ _ _ _ => ()) v
noncomputable def AV.onChan {β : Type} (v : AV) (no : β) (κ : Nat → β) : β := onSome v.asChan no fun p => κ p
noncomputable def AV.asNilc (v : AV) : Option (Unit) := AV.rec (motive_1 := fun _ => Option (Unit)) (motive_2 := fun _ => Unit) (fun _ _ => none) (fun _ => none) (fun _ => none) (fun _ _ => none) none (fun _ _ _ _ _ _ => none) (fun _ _ _ _ => none) none (fun _ => none) none (fun _ => none) (some ()) (fun _ _ _ => none) none (fun _ _ _ => none) none (fun _ _ => none) (fun _ _ => none) (fun _ => none) (fun _ _ _ => none) () (fun _ _ _ _ => ()) v
noncomputable def AV.onNilc {β : Type} (v : AV) (no : β) (κ : β) : β := onSome v.asNilc no fun p => κ
noncomputable def AV.asFn (v : AV) : Option (Nat × (List AV)) := AV.rec (motive_1 := fun _ => Option (Nat × (List AV))) (motive_2 := fun _ => Unit) (fun _ _ => none) (fun _ => none) (fun _ => none) (fun _ _ => none) none (fun _ _ _ _ _ _ => none) (fun _ _ _ _ => none) none (fun _ => none) none (fun _ => none) none (fun x0 x1 _ => some (x0, x1)) none (fun _ _ _ => none) none (fun _ _ => none) (fun _ _ => none) (fun _ => none) (fun _ _ _ => none) () (fun _ _ _ _ => ()) v
noncomputable def AV.onFn {β : Type} (v : AV) (no : β) (κ : Nat → List AV → β) : β := onSome v.asFn no fun p => κ p.1 p.2
noncomputable def AV.asNilf (v : AV) : Option (Unit) := AV.rec (motive_1 := fun _ => Option (Unit)) (motive_2 := fun _ => Unit) (fun _ _ => none) (fun _ => none) (fun _ => none) (fun _ _ => none) none (fun _ _ _ _ _ _ => none) (fun _ _ _ _ => none) none (fun _ => none) none (fun _ => none) none (fun _ _ _ => none) (some ()) (fun _ _ _ => none) none (fun _ _ => none) (fun _ _ => none) (fun _ => none) (fun _ _ _ => none) () (fun _ _ _ _ => ()) v
noncomputable def AV.onNilf {β : Type} (v : AV) (no : β) (κ : β) : β := onSome v.asNilf no fun p => κ
noncomputable def AV.asIface (v : AV) : Option (Nat × AV) := AV.rec (motive_1 := fun _ => Option (Nat × AV)) (motive_2 := fun _ => Unit) (fun _ _ => none) (fun _ => none) (fun _ => none) (fun _ _ => none) none (fun _ _ _ _ _ _ => none) (fun _ _ _ _ => none) none (fun _ => none) none (fun _ => none) none (fun _ _ _ => none) none (fun x0 x1 _ => some (x0, x1)) none (fun _ _ => none) (fun _ _ => none) (fun _ => none) (fun _ _ _ => none) () (fun _ _ _ _ => ()) v
noncomputable def AV.onIface {β : Type} (v : AV) (no : β) (κ : Nat → AV → β) : β := onSome v.asIface no fun p => κ p.1 p.2
noncomputable def AV.asNili (v : AV) : Option (Unit) := AV.rec (motive_1 := fun _ => Option (Unit)) (motive_2 := fun _ => Unit) (fun _ _ => none) (fun _ => none) (fun _ => none) (fun _ _ => none) none (fun _ _ _ _ _ _ => none) (fun _ _ _ _ => none) none (fun _ => none) none (fun _ => none) none (fun _ _ _ => none) none (fun _ _ _ => none) (some ()) (fun _ _ => none) (fun _ _ => none) (fun _ => none) (fun _ _ _ => none) () (fun _ _ _ _ => ()) v
noncomputable def AV.onNili {β : Type} (v : AV) (no : β) (κ : β) : β := onSome v.asNili no fun p => κ
noncomputable def AV.asAgg (v : AV) : Option ((List AV)) := AV.rec (motive_1 := fun _ => Option ((List AV))) (motive_2 := fun _ => Unit) (fun _ _ => none) (fun _ => none) (fun _ => none) (fun _ _ => none) none (fun _ _ _ _ _ _ => none) (fun _ _ _ _ => none) none (fun _ => none) none (fun _ => none) none (fun _ _ _ => none) none (fun _ _ _ => none) none (fun x0 _ => some x0) (fun _ _ => none) (fun _ => none) (fun _ _ _ => none) () (fun _ _ _ _ => ()) v
noncomputable def AV.onAgg {β : Type} (v : AV) (no : β) (κ : List AV → β) : β := onSome v.asAgg no fun p => κ p
noncomputable def AV.asTup (v : AV) : Option ((List AV)) := AV.rec (motive_1 := fun _ => Option ((List AV))) (motive_2 := fun _ => Unit) (fun _ _ => none) (fun _ => none) (fun _ => none) (fun _ _ => none) none (fun _ _ _ _ _ _ => none) (fun _ _ _ _ => none) none (fun _ => none) none (fun _ => none) none (fun _ _ _ => none) none (fun _ _ _ => none) none (fun _ _ => none) (fun x0 _ => some x0) (fun _ => none) (fun _ _ _ => none) () (fun _ _ _ _ => ()) v
noncomputable def AV.onTup {β : Type} (v : AV) (no : β) (κ : List AV → β) : β := onSome v.asTup no fun p => κ p
noncomputable def AV.asFsl (v : AV) : Option (Nat) := AV.rec (motive_1 := fun _ => Option (Nat)) (motive_2 := fun _ => Unit) (fun _ _ => none) (fun _ => none) (fun _ => none) (fun _ _ => none) none (fun _ _ _ _ _ _ => none) (fun _ _ _ _ => none) none (fun _ => none) none (fun _ => none) none (fun _ _ _ => none) none (fun _ _ _ => none) none (fun _ _ => none) (fun _ _ => none) (fun x0 => some x0) (fun _ _ _ => none) () (fun _ _ _ _ => ()) v
noncomputable def AV.onFsl {β : Type} (v : AV) (no : β) (κ : Nat → β) : β := onSome v.asFsl no fun p => κ p
noncomputable def AV.asFpt (v : AV) : Option (Nat × SI × Nat) := AV.rec (motive_1 := fun _ => Option (Nat × SI × Nat)) (motive_2 := fun _ => Unit) (fun _ _ => none) (fun _ => none) (fun _ => none) (fun _ _ => none) none (fun _ _ _ _ _ _ => none) (fun _ _ _ _ => none) none (fun _ => none) none (fun _ => none) none (fun _ _ _ => none) none (fun _ _ _ => none) none (fun _ _ => none) (fun _ _ => none) (fun _ => none) (fun x0 x1 x2 => some (x0, x1, x2)) () (fun _ _ _ _ => ()) v
noncomputable def AV.onFpt {β : Type} (v : AV) (no : β) (κ : Nat → SI → Nat → β) : β := onSome v.asFpt no fun p => κ p.1 p.2.1 p.2.2
noncomputable def Blk.asCells (v : Blk) : Option (Nat × Bool × BT) := Blk.rec (motive := fun _ => Option (Nat × Bool × BT)) (fun x0 x1 x2 => some (x0, x1, x2)) (fun _ => none) (fun _ _ => none) v
noncomputable def Blk.onCells {β : Type} (v : Blk) (no : β) (κ : Nat → Bool → BT → β) : β := onSome v.asCells no fun p => κ p.1 p.2.1 p.2.2
noncomputable def Blk.asMap (v : Blk) : Option ((List (AV × AV))) := Blk.rec (motive := fun _ => Option ((List (AV × AV)))) (fun _ _ _ => none) (fun x0 => some x0) (fun _ _ => none) v
noncomputable def Blk.onMap {β : Type} (v : Blk) (no : β) (κ : List (AV × AV) → β) : β := onSome v.asMap no fun p => κ p
noncomputable def Blk.asChan (v : Blk) : Option (Nat × (List AV)) := Blk.rec (motive := fun _ => Option (Nat × (List AV))) (fun _ _ _ => none) (fun _ => none) (fun x0 x1 => some (x0, x1)) v
noncomputable def Blk.onChan {β : Type} (v : Blk) (no : β) (κ : Nat → List AV → β) : β := onSome v.asChan no fun p => κ p.1 p.2
noncomputable def SI.asLit (v : SI) : Option (Int) := SI.rec (motive := fun _ => Option (Int)) (fun x0 => some x0) (fun _ => none) (fun _ _ _ _ _ _ => none) (fun _ _ _ _ => none) (fun _ => none) v
noncomputable def SI.onLit {β : Type} (v : SI) (no : β) (κ : Int → β) : β := onSome v.asLit no fun p => κ p
noncomputable def SB.asLit (v : SB) : Option (Bool) := SB.rec (motive := fun _ => Option (Bool)) (fun x0 => some x0) (fun _ => none) (fun _ _ _ => none) v
noncomputable def SB.onLit {β : Type} (v : SB) (no : β) (κ : Bool → β) : β := onSome v.asLit no fun p => κ p
noncomputable def _root_.Go.TypeDesc.asInt (v : TypeDesc) : Option (IntKind) := TypeDesc.rec (motive := fun _ => Option (IntKind)) none none (fun x0 => some x0) (fun _ => none) (fun _ => none) none none (fun _ => none) (fun _ => none) (fun _ _ => none) (fun _ _ => none) (fun _ _ => none) (fun _ => none) (fun _ _ _ => none) (fun _ => none) (fun _ => none) (fun _ _ => none) v
noncomputable def _root_.Go.TypeDesc.onInt {β : Type} (v : TypeDesc) (no : β) (κ : IntKind → β) : β := onSome v.asInt no fun p => κ p
noncomputable def _root_.Go.TypeDesc.asBool (v : TypeDesc) : Option (Unit) := TypeDesc.rec (motive := fun _ => Option (Unit)) none (some ()) (fun _ => none) (fun _ => none) (fun _ => none) none none (fun _ => none) (fun _ => none) (fun _ _ => none) (fun _ _ => none) (fun _ _ => none) (fun _ => none) (fun _ _ _ => none) (fun _ => none) (fun _ => none) (fun _ _ => none) v
noncomputable def _root_.Go.TypeDesc.onBool {β : Type} (v : TypeDesc) (no : β) (κ : β) : β := onSome v.asBool no fun p => κ
noncomputable def _root_.Go.TypeDesc.asString (v : TypeDesc) : Option (Unit) := TypeDesc.rec (motive := fun _ => Option (Unit)) none none (fun _ => none) (fun _ => none) (fun _ => none) (some ()) none (fun _ => none) (fun _ => none) (fun _ _ => none) (fun _ _ => none) (fun _ _ => none) (fun _ => none) (fun _ _ _ => none) (fun _ => none) (fun _ => none) (fun _ _ => none) v
noncomputable def _root_.Go.TypeDesc.onString {β : Type} (v : TypeDesc) (no : β) (κ : β) : β := onSome v.asString no fun p => κ
noncomputable def _root_.Go.TypeDesc.asUnsafePointer (v : TypeDesc) : Option (Unit) := TypeDesc.rec (motive := fun _ => Option (Unit)) none none (fun _ => none) (fun _ => none) (fun _ => none) none (some ()) (fun _ => none) (fun _ => none) (fun _ _ => none) (fun _ _ => none) (fun _ _ => none) (fun _ => none) (fun _ _ _ => none) (fun _ => none) (fun _ => none) (fun _ _ => none) v
noncomputable def _root_.Go.TypeDesc.onUnsafePointer {β : Type} (v : TypeDesc) (no : β) (κ : β) : β := onSome v.asUnsafePointer no fun p => κ
noncomputable def _root_.Go.TypeDesc.asPointer (v : TypeDesc) : Option (TypeId) := TypeDesc.rec (motive := fun _ => Option (TypeId)) none none (fun _ => none) (fun _ => none) (fun _ => none) none none (fun x0 => some x0) (fun _ => none) (fun _ _ => none) (fun _ _ => none) (fun _ _ => none) (fun _ => none) (fun _ _ _ => none) (fun _ => none) (fun _ => none) (fun _ _ => none) v
noncomputable def _root_.Go.TypeDesc.onPointer {β : Type} (v : TypeDesc) (no : β) (κ : TypeId → β) : β := onSome v.asPointer no fun p => κ p
noncomputable def _root_.Go.TypeDesc.asSlice (v : TypeDesc) : Option (TypeId) := TypeDesc.rec (motive := fun _ => Option (TypeId)) none none (fun _ => none) (fun _ => none) (fun _ => none) none none (fun _ => none) (fun x0 => some x0) (fun _ _ => none) (fun _ _ => none) (fun _ _ => none) (fun _ => none) (fun _ _ _ => none) (fun _ => none) (fun _ => none) (fun _ _ => none) v
noncomputable def _root_.Go.TypeDesc.onSlice {β : Type} (v : TypeDesc) (no : β) (κ : TypeId → β) : β := onSome v.asSlice no fun p => κ p
noncomputable def _root_.Go.TypeDesc.asArray (v : TypeDesc) : Option (Nat × TypeId) := TypeDesc.rec (motive := fun _ => Option (Nat × TypeId)) none none (fun _ => none) (fun _ => none) (fun _ => none) none none (fun _ => none) (fun _ => none) (fun x0 x1 => some (x0, x1)) (fun _ _ => none) (fun _ _ => none) (fun _ => none) (fun _ _ _ => none) (fun _ => none) (fun _ => none) (fun _ _ => none) v
noncomputable def _root_.Go.TypeDesc.onArray {β : Type} (v : TypeDesc) (no : β) (κ : Nat → TypeId → β) : β := onSome v.asArray no fun p => κ p.1 p.2
noncomputable def _root_.Go.TypeDesc.asMap (v : TypeDesc) : Option (TypeId × TypeId) := TypeDesc.rec (motive := fun _ => Option (TypeId × TypeId)) none none (fun _ => none) (fun _ => none) (fun _ => none) none none (fun _ => none) (fun _ => none) (fun _ _ => none) (fun x0 x1 => some (x0, x1)) (fun _ _ => none) (fun _ => none) (fun _ _ _ => none) (fun _ => none) (fun _ => none) (fun _ _ => none) v
noncomputable def _root_.Go.TypeDesc.onMap {β : Type} (v : TypeDesc) (no : β) (κ : TypeId → TypeId → β) : β := onSome v.asMap no fun p => κ p.1 p.2
noncomputable def _root_.Go.TypeDesc.asChan (v : TypeDesc) : Option (ChanDir × TypeId) := TypeDesc.rec (motive := fun _ => Option (ChanDir × TypeId)) none none (fun _ => none) (fun _ => none) (fun _ => none) none none (fun _ => none) (fun _ => none) (fun _ _ => none) (fun _ _ => none) (fun x0 x1 => some (x0, x1)) (fun _ => none) (fun _ _ _ => none) (fun _ => none) (fun _ => none) (fun _ _ => none) v
noncomputable def _root_.Go.TypeDesc.onChan {β : Type} (v : TypeDesc) (no : β) (κ : ChanDir → TypeId → β) : β := onSome v.asChan no fun p => κ p.1 p.2
noncomputable def _root_.Go.TypeDesc.asStruct (v : TypeDesc) : Option ((Array Field)) := TypeDesc.rec (motive := fun _ => Option ((Array Field))) none none (fun _ => none) (fun _ => none) (fun _ => none) none none (fun _ => none) (fun _ => none) (fun _ _ => none) (fun _ _ => none) (fun _ _ => none) (fun x0 => some x0) (fun _ _ _ => none) (fun _ => none) (fun _ => none) (fun _ _ => none) v
noncomputable def _root_.Go.TypeDesc.onStruct {β : Type} (v : TypeDesc) (no : β) (κ : Array Field → β) : β := onSome v.asStruct no fun p => κ p

noncomputable def R.asNorm (v : R) : Option (St) := R.rec (motive := fun _ => Option (St)) (fun _ _ => none) (fun _ _ => none) (fun _ _ => none) (fun _ _ => none) (fun _ => none) (fun _ => none) (fun _ => none) (fun x0 => some x0) (fun _ _ => none) (fun _ _ => none) (fun _ => none) v
noncomputable def R.onNorm {β : Type} (v : R) (no : β) (κ : St → β) : β := onSome v.asNorm no fun p => κ p
noncomputable def R.asExit (v : R) : Option (Nat × St) := R.rec (motive := fun _ => Option (Nat × St)) (fun _ _ => none) (fun _ _ => none) (fun _ _ => none) (fun _ _ => none) (fun _ => none) (fun _ => none) (fun _ => none) (fun _ => none) (fun x0 x1 => some (x0, x1)) (fun _ _ => none) (fun _ => none) v
noncomputable def R.onExit {β : Type} (v : R) (no : β) (κ : Nat → St → β) : β := onSome v.asExit no fun p => κ p.1 p.2
noncomputable def R.asGoto (v : R) : Option (Nat × St) := R.rec (motive := fun _ => Option (Nat × St)) (fun _ _ => none) (fun _ _ => none) (fun _ _ => none) (fun _ _ => none) (fun _ => none) (fun _ => none) (fun _ => none) (fun _ => none) (fun _ _ => none) (fun x0 x1 => some (x0, x1)) (fun _ => none) v
noncomputable def R.onGoto {β : Type} (v : R) (no : β) (κ : Nat → St → β) : β := onSome v.asGoto no fun p => κ p.1 p.2

noncomputable def getA (t : Tr AV) : Nat → Option AV :=
  Tr.rec (fun _ => none) (fun v _ _ il ir k => ife (Nat.beq k 0) v (ife (Nat.beq (Nat.mod k 2) 1) (il (Nat.div k 2)) (ir (Nat.sub (Nat.div k 2) 1)))) t
noncomputable def putA (t : Tr AV) : Option AV → Nat → (Tr AV → R) → R :=
  Tr.rec (motive := fun _ => Option AV → Nat → (Tr AV → R) → R) (fun a k κ => κ (Tr.sing a 64 k))
    (fun v l r il ir a k κ => ife (Nat.beq k 0) (κ (.n a l r)) (ife (Nat.beq (Nat.mod k 2) 1) (il a (Nat.div k 2) (fun l' => κ (.n v l' r))) (ir a (Nat.sub (Nat.div k 2) 1) (fun r' => κ (.n v l r'))))) t
noncomputable def getK (t : Tr Blk) : Nat → Option Blk :=
  Tr.rec (fun _ => none) (fun v _ _ il ir k => ife (Nat.beq k 0) v (ife (Nat.beq (Nat.mod k 2) 1) (il (Nat.div k 2)) (ir (Nat.sub (Nat.div k 2) 1)))) t
noncomputable def putK (t : Tr Blk) : Option Blk → Nat → (Tr Blk → R) → R :=
  Tr.rec (motive := fun _ => Option Blk → Nat → (Tr Blk → R) → R) (fun a k κ => κ (Tr.sing a 64 k))
    (fun v l r il ir a k κ => ife (Nat.beq k 0) (κ (.n a l r)) (ife (Nat.beq (Nat.mod k 2) 1) (il a (Nat.div k 2) (fun l' => κ (.n v l' r))) (ir a (Nat.sub (Nat.div k 2) 1) (fun r' => κ (.n v l r'))))) t
noncomputable def nthA (l : List AV) : Nat → Option AV :=
  List.rec (fun _ => none) (fun a _ ih k => Nat.rec (some a) (fun k' _ => ih k') k) l
noncomputable def dropA (k : Nat) : List AV → List AV :=
  Nat.rec (fun l => l) (fun _ ih l => List.rec [] (fun _ t _ => ih t) l) k
noncomputable def lenAs (l : List AV) : Nat := List.rec 0 (fun _ _ ih => Nat.succ ih) l
/-- The first k. -/
noncomputable def takeK (k : Nat) : List AV → R → (List AV → R) → R :=
  Nat.rec (motive := fun _ => List AV → R → (List AV → R) → R) (fun _ _ κ => κ []) (fun _ ih l no κ => List.rec (motive := fun _ => R) no (fun a t _ => ih t no (fun r => κ (a :: r))) l) k
noncomputable def takeN (k : Nat) : List Nat → R → (List Nat → R) → R :=
  Nat.rec (motive := fun _ => List Nat → R → (List Nat → R) → R) (fun _ _ κ => κ []) (fun _ ih l no κ => List.rec (motive := fun _ => R) no (fun a t _ => ih t no (fun r => κ (a :: r))) l) k
/-- vs in the place of the first ones. -/
noncomputable def overK (vs : List AV) : List AV → R → (List AV → R) → R :=
  List.rec (motive := fun _ => List AV → R → (List AV → R) → R) (fun l _ κ => κ l) (fun v _ ih l no κ => List.rec (motive := fun _ => R) no (fun _ t _ => ih t no (fun r => κ (v :: r))) l) vs
/-- vs in the place of those from k on. -/
noncomputable def overAtK (k : Nat) : List AV → List AV → R → (List AV → R) → R :=
  Nat.rec (motive := fun _ => List AV → List AV → R → (List AV → R) → R) overK (fun _ ih vs l no κ => List.rec (motive := fun _ => R) no (fun a t _ => ih vs t no (fun r => κ (a :: r))) l) k
noncomputable def appK (a : List AV) : List AV → (List AV → R) → R :=
  List.rec (motive := fun _ => List AV → (List AV → R) → R) (fun b κ => κ b) (fun x _ ih b κ => ih b (fun r => κ (x :: r))) a
noncomputable def forceN (n : Nat) : (Nat → R) → R := Nat.rec (motive := fun _ => (Nat → R) → R) (fun κ => κ 0) (fun m _ κ => κ (Nat.succ m)) n
noncomputable def BT.get (c : BT) : Nat → Option AV :=
  BT.rec (motive := fun _ => Nat → Option AV) nthA (fun m _ _ ia ib k => ife (Nat.blt k m) (ia k) (ib (Nat.sub k m))) c
noncomputable def BT.len (c : BT) : Nat := BT.rec (motive := fun _ => Nat) lenAs (fun _ _ _ ia ib => Nat.add ia ib) c
/-- n cells from o on. -/
noncomputable def BT.ext (c : BT) : Nat → Nat → R → (List AV → R) → R :=
  BT.rec (motive := fun _ => Nat → Nat → R → (List AV → R) → R) (fun l o n no κ => takeK n (dropA o l) no κ)
    (fun m _ _ ia ib o n no κ => ife (Nat.ble (Nat.add o n) m) (ia o n no κ) (ife (Nat.ble m o) (ib (Nat.sub o m) n no κ)
      (ia o (Nat.sub m o) no (fun x => ib 0 (Nat.sub (Nat.add o n) m) no (fun y => appK x y κ))))) c
noncomputable def BT.puts (c : BT) : Nat → List AV → R → (BT → R) → R :=
  BT.rec (motive := fun _ => Nat → List AV → R → (BT → R) → R) (fun l o vs no κ => overAtK o vs l no (fun r => κ (.leaf r)))
    (fun m a b ia ib o vs no κ => ife (Nat.ble (Nat.add o (lenAs vs)) m) (ia o vs no (fun a' => κ (.node m a' b))) (ife (Nat.ble m o) (ib (Nat.sub o m) vs no (fun b' => κ (.node m a b')))
      (takeK (Nat.sub m o) vs no (fun x => ia o x no (fun a' => ib 0 (dropA (Nat.sub m o) vs) no (fun b' => κ (.node m a' b'))))))) c
noncomputable def repL (n : Nat) : List AV → List AV := Nat.rec (motive := fun _ => List AV → List AV) (fun _ => []) (fun _ ih l => List.append l (ih l)) n
noncomputable def BT.fill (f : Nat) : List AV → Nat → BT :=
  Nat.rec (motive := fun _ => List AV → Nat → BT) (fun z n => .leaf (repL n z))
    (fun _ ih z n => ife (Nat.ble (Nat.mul n (lenAs z)) 32) (.leaf (repL n z)) (BT.node (Nat.mul (Nat.div n 2) (lenAs z)) (ih z (Nat.div n 2)) (ih z (Nat.sub n (Nat.div n 2))))) f
/-! ### Numbers -/
noncomputable def forceI (n : Int) : (Int → R) → R := Int.rec (motive := fun _ => (Int → R) → R) (fun a κ => forceN a (fun a => κ (Int.ofNat a))) (fun a κ => forceN a (fun a => κ (Int.negSucc a))) n
noncomputable def iltN (b : Int) : Nat → Bool := Int.rec (motive := fun _ => Nat → Bool) (fun b a => Nat.blt a b) (fun _ _ => false) b
noncomputable def iltS (b : Int) : Nat → Bool := Int.rec (motive := fun _ => Nat → Bool) (fun _ _ => true) (fun b a => Nat.blt b a) b
noncomputable def ilt (x : Int) : Int → Bool := Int.rec (motive := fun _ => Int → Bool) (fun a y => iltN y a) (fun a y => iltS y a) x
noncomputable def ieqN (b : Int) : Nat → Bool := Int.rec (motive := fun _ => Nat → Bool) (fun b a => Nat.beq a b) (fun _ _ => false) b
noncomputable def ieqS (b : Int) : Nat → Bool := Int.rec (motive := fun _ => Nat → Bool) (fun _ _ => false) (fun b a => Nat.beq a b) b
noncomputable def ieq (x : Int) : Int → Bool := Int.rec (motive := fun _ => Int → Bool) (fun a y => ieqN y a) (fun a y => ieqS y a) x
noncomputable def kmax (x : IntKind) : Nat := IntKind.rec (motive := fun _ => Nat)
  (127)
  (32767)
  (2147483647)
  (9223372036854775807)
  (255)
  (65535)
  (4294967295)
  (18446744073709551615) x
noncomputable def IOp.den (f : IOp) (k : IntKind) (x y : Int) : Int :=
  match f with
  | .add => k.wrap (x + y)
  | .sub => k.wrap (x - y)
  | .mul => k.wrap (x * y)
  | .quo => k.wrap (x.tdiv y)
  | .rem => x.tmod y
  | .and => k.wrap ((BitVec.ofInt k.bits x &&& BitVec.ofInt k.bits y).toNat : Int)
  | .or => k.wrap ((BitVec.ofInt k.bits x ||| BitVec.ofInt k.bits y).toNat : Int)
  | .xor => k.wrap ((BitVec.ofInt k.bits x ^^^ BitVec.ofInt k.bits y).toNat : Int)
  | .andNot => k.wrap ((BitVec.ofInt k.bits x &&& ~~~ (BitVec.ofInt k.bits y)).toNat : Int)
  | .shl => k.wrap (x * 2 ^ (min y.toNat k.bits))
  | .shr => x.fdiv (2 ^ (min y.toNat k.bits))
  | .conv => k.wrap x
noncomputable def upTo (s m : Nat) : Option Nat := ife (Nat.ble s m) (some s) none
noncomputable def both (a b m r : Nat) : Option Nat := ife (Nat.ble a m) (ife (Nat.ble b m) (some r) none) none
noncomputable def IOp.nat (x : IOp) : IntKind → Nat → Nat → Option Nat := IOp.rec (motive := fun _ => IntKind → Nat → Nat → Option Nat)
  (fun k a b => upTo (Nat.add a b) (kmax k))
  (fun k a b => ife (Nat.ble b a) (upTo (Nat.sub a b) (kmax k)) none)
  (fun k a b => upTo (Nat.mul a b) (kmax k))
  (fun k a b => upTo (Nat.div a b) (kmax k))
  (fun _ a b => some (Nat.mod a b))
  (fun k a b => both a b (kmax k) (Nat.land a b))
  (fun k a b => both a b (kmax k) (Nat.lor a b))
  (fun k a b => both a b (kmax k) (Nat.xor a b))
  (fun k a b => both a b (kmax k) (Nat.xor a (Nat.land a b)))
  (fun k a b => ife (Nat.ble b 64) (upTo (Nat.mul a (Nat.pow 2 b)) (kmax k)) none)
  (fun k a b => ife (Nat.ble b k.bits) (some (Nat.div a (Nat.pow 2 b))) none)
  (fun k a _ => upTo a (kmax k)) x
noncomputable def fastN (y : Int) : IOp → IntKind → Nat → Int := Int.rec (motive := fun _ => IOp → IntKind → Nat → Int) (fun b f k a => onSome (f.nat k a b) (f.den k (.ofNat a) (.ofNat b)) Int.ofNat) (fun b f k a => f.den k (.ofNat a) (.negSucc b)) y
noncomputable def IOp.fast (f : IOp) (k : IntKind) (x : Int) : Int → Int := Int.rec (motive := fun _ => IOp → IntKind → Int → Int) (fun a f k y => fastN y f k a) (fun a f k y => f.den k (.negSucc a) y) x f k
noncomputable def SI.bin (f : IOp) (k : IntKind) (a b : SI) (κ : SI → R) : R :=
  a.onLit (κ (.app f k a b)) fun x => b.onLit (κ (.app f k a b)) fun y => forceI (f.fast k x y) fun n => κ (.lit n)

/-! ### Are two the same? -/
noncomputable def beqIOp : IOp → IOp → Bool
  | .add, .add | .sub, .sub | .mul, .mul | .quo, .quo | .rem, .rem | .and, .and | .or, .or | .xor, .xor | .andNot, .andNot | .shl, .shl | .shr, .shr | .conv, .conv => true
  | _, _ => false
noncomputable def kno (x : IntKind) : Nat := IntKind.rec (motive := fun _ => Nat)
  (0)
  (1)
  (2)
  (3)
  (4)
  (5)
  (6)
  (7) x
noncomputable def beqK (a b : IntKind) : Bool := Nat.beq (kno a) (kno b)
noncomputable def beqB (a b : Bool) : Bool := ife a b (ife b false true)
noncomputable def beqSI : SI → SI → Bool
  | .lit a, .lit b => ieq a b
  | .var i, .var j => Nat.beq i j
  | .app f k a b, .app f' k' a' b' => beqIOp f f' && (beqK k k' && (beqSI a a' && beqSI b b'))
  | .elem s i j, .elem s' i' j' => Nat.beq s s' && (beqSI i i' && Nat.beq j j')
  | .len s, .len s' => Nat.beq s s'
  | _, _ => false
noncomputable def beqSB : SB → SB → Bool
  | .lit a, .lit b => beqB a b
  | .var i, .var j => Nat.beq i j
  | .elem s i j, .elem s' i' j' => Nat.beq s s' && (beqSI i i' && Nat.beq j j')
  | _, _ => false
noncomputable def beqNs : List Nat → List Nat → Bool
  | [], [] => true
  | a :: l, b :: m => Nat.beq a b && beqNs l m
  | _, _ => false
mutual
noncomputable def beqAV : AV → AV → Bool
  | .int k a, .int k' a' => beqK k k' && beqSI a a'
  | .bool a, .bool b => beqSB a b
  | .str a, .str b => beqNs a b
  | .ptr b o, .ptr b' o' => Nat.beq b b' && Nat.beq o o'
  | .nil, .nil => true
  | .slc b o n l x z, .slc b' o' n' l' x' z' => Nat.beq b b' && (Nat.beq o o' && (Nat.beq n n' && (Nat.beq l l' && (beqB x x' && Nat.beq z z'))))
  | .etl b o n l, .etl b' o' n' l' => Nat.beq b b' && (Nat.beq o o' && (Nat.beq n n' && Nat.beq l l'))
  | .nils, .nils => true
  | .map b, .map b' => Nat.beq b b'
  | .nilm, .nilm => true
  | .chan b, .chan b' => Nat.beq b b'
  | .nilc, .nilc => true
  | .fn f l, .fn f' l' => Nat.beq f f' && beqAVs l l'
  | .nilf, .nilf => true
  | .iface t v, .iface t' v' => Nat.beq t t' && beqAV v v'
  | .nili, .nili => true
  | .agg l, .agg l' => beqAVs l l'
  | .tup l, .tup l' => beqAVs l l'
  | .fsl s, .fsl s' => Nat.beq s s'
  | .fpt s i j, .fpt s' i' j' => Nat.beq s s' && (beqSI i i' && Nat.beq j j')
  | _, _ => false
noncomputable def beqAVs : List AV → List AV → Bool
  | [], [] => true
  | a :: l, b :: m => beqAV a b && beqAVs l m
  | _, _ => false
end

/-! ### What the program's tables tell -/
structure Fd where
  off : Nat
  ty : Nat
  size : Nat
  blank : Bool
structure TInf where
  d : TypeDesc
  size : Nat
  bytes : Nat
  zero : Option (List AV)
  agg : Bool
  flds : List Fd
  stood : Bool
  guard : Bool
  plc : Option (List (Nat × Nat))
  zv : Option AV
noncomputable def ofCell : Value → Option AV
  | .bool b => some (.bool (.lit b))
  | .int k n => some (.int k (.lit n))
  | .string s => some (.str (s.data.toList.map UInt8.toNat))
  | .pointer none => some .nil
  | .slice none 0 0 => some .nils
  | .map none => some .nilm
  | .chan none => some .nilc
  | .nilFunc => some .nilf
  | .nilIface => some .nili
  | _ => none
noncomputable def ofCells : List Value → Option (List AV)
  | [] => some []
  | v :: l => onSome (ofCell v) none fun a => onSome (ofCells l) none fun m => some (a :: m)
noncomputable def ofValue : Value → Option AV
  | .agg cs => (ofCells cs.toList).map .agg
  | .tuple cs => (ofCells cs.toList).map .tup
  | .func (.func f) first cap => if first.isEmpty && cap.isEmpty then some (.fn f []) else none
  | v => ofCell v
noncomputable def zeroCellsOf : Option Value → Option (List AV)
  | some v => ofCells v.cells.toList
  | none => none
noncomputable def fdsOf (P : Program) : List Field → List Fd
  | [] => []
  | f :: l => ⟨f.offset, f.type, ((P.info? f.type).map (·.size)).getD 0, f.name == "_"⟩ :: fdsOf P l
noncomputable def isAggD (x : TypeDesc) : Bool := TypeDesc.rec (motive := fun _ => Bool)
  (false)
  (false)
  (fun _ => false)
  (fun _ => false)
  (fun _ => false)
  (false)
  (false)
  (fun _ => false)
  (fun _ => false)
  (fun _ _ => true)
  (fun _ _ => false)
  (fun _ _ => false)
  (fun _ => true)
  (fun _ _ _ => false)
  (fun _ => false)
  (fun _ => false)
  (fun _ _ => false) x
noncomputable def fdsD (P : Program) : TypeDesc → List Fd
  | .struct fs => fdsOf P fs.toList
  | _ => []
noncomputable def plcD (P : Program) : TypeDesc → Option (List (Nat × Nat))
  | .struct fs => fs.toList.mapM (fun f => (P.info? f.type).map fun i => (f.offset, i.size))
  | _ => none
noncomputable def mkTI (P : Program) (t : Nat) : Option TInf :=
  onSome (P.info? t) none fun i => onSome (P.underlying t) none fun d =>
    some ⟨d, i.size, i.bytes, zeroCellsOf i.zero, isAggD d, fdsD P d, P.stoodInHeld t, P.eqGuardType P.depth t, plcD P d, i.zero.bind ofValue⟩
structure Fact where
  f : Nat
  args : List AV
  res : AV
/-- What the machine goes by: the program, its tables, what is known of named numbers, calls that are known. -/
structure Ctx where
  P : Program
  ty : Tr (Option TInf)
  fn : Tr (Option Func)
  know : List (Atom × Bool)
  fk : List (List (Option IntKind))
  facts : List Fact
  silent : List Nat
noncomputable def Ctx.mk' (P : Program) (know : List (Atom × Bool)) (fk : List (List (Option IntKind))) (facts : List Fact) (silent : List Nat) : Ctx :=
  ⟨P, Tr.tab 12 (mkTI P), Tr.tab 12 (fun f => P.funcs[f]?), know, fk, facts, silent⟩
noncomputable def Ctx.tinf (C : Ctx) (t : Nat) : Option TInf := onSome (C.ty.get t) none fun x => x
noncomputable def beqAtom : Atom → Atom → Bool
  | .lt a b, .lt a' b' => beqSI a a' && beqSI b b'
  | .eq a b, .eq a' b' => beqSI a a' && beqSI b b'
  | .bool b, .bool b' => beqSB b b'
  | _, _ => false
noncomputable def known (a : Atom) : List (Atom × Bool) → Option Bool
  | [] => none
  | (b, r) :: l => ife (beqAtom a b) (some r) (known a l)
/-- Is it so? -/
noncomputable def decLt (C : Ctx) (a b : SI) : Option Bool := a.onLit (known (.lt a b) C.know) fun x => b.onLit (known (.lt a b) C.know) fun y => some (ilt x y)
noncomputable def decEq (C : Ctx) (a b : SI) : Option Bool := a.onLit (ife (beqSI a b) (some true) (known (.eq a b) C.know)) fun x => b.onLit (known (.eq a b) C.know) fun y => some (ieq x y)
noncomputable def decB (C : Ctx) (b : SB) : Option Bool := b.onLit (known (.bool b) C.know) fun b => some b

/-! ### Operations -/
abbrev Tm := Tr AV
noncomputable def ev (x : Operand) : Tm → Option AV := Operand.rec (motive := fun _ => Tm → Option AV)
  (fun t => fun τ => getA τ t)
  (fun v => fun _ => ofValue v)
  (fun _ => fun _ => none)
  (fun f => fun _ => some (.fn f [])) x
noncomputable def evs (l : List Operand) : Tm → Option (List AV) := List.rec (motive := fun _ => Tm → Option (List AV)) (fun _ => some []) (fun x _ ih τ => onSome (ev x τ) none fun a => onSome (ih τ) none fun m => some (a :: m)) l
/-- A block, to be read. -/
noncomputable def Heap.get (H : Heap) (b : Nat) : Option Blk := onSome (getK H.tr b) (getK H.ro b) some
noncomputable def Heap.setB (H : Heap) (b : Nat) (k : Option Blk) (κ : Heap → R) : R := putK H.tr k b fun t => κ ⟨t, H.ro, H.next, H.lim, H.it⟩
noncomputable def Heap.new (H : Heap) (k : Blk) (no : R) (κ : Nat → Heap → R) : R :=
  ife (Nat.blt H.next H.lim) (putK H.tr (some k) H.next fun t => forceN (Nat.succ H.next) fun n => κ H.next ⟨t, H.ro, n, H.lim, H.it⟩) no
/-- Cells of a value of so many. -/
noncomputable def AV.cells (v : AV) : List AV := v.onAgg [v] fun cs => cs
noncomputable def oneCell (v : AV) : Bool := v.onAgg (v.onTup true fun _ => false) fun _ => false
noncomputable def allOne (l : List AV) : Bool := List.rec (motive := fun _ => Bool) true (fun v _ ih => ife (oneCell v) ih false) l
noncomputable def loadC (C : Ctx) (H : Heap) (t b o : Nat) (no : R) (κ : AV → R) : R :=
  onSome (C.tinf t) no fun i => onSome (H.get b) no fun k => k.onCells no fun _ _ c =>
    ife i.agg (c.ext o i.size no fun vs => κ (.agg vs)) (onSome (c.get o) no κ)
noncomputable def kindAt (C : Ctx) (s j : Nat) : Option (Option IntKind) := onSome (nth C.fk s) none fun ks => nth ks j
noncomputable def xLoadF (t s : Nat) (i : SI) (j : Nat) (C : Ctx) (H : Heap) : R :=
  onSome (C.tinf t) (.bad 3) fun ti => onSome (kindAt C s j) (.bad 3) fun o =>
    onSome o (ti.d.onBool (.bad 2) (.val (.bool (.elem s i j)) H)) fun k' => ti.d.onInt (.bad 2) fun k => ife (beqK k k') (.val (.int k (.elem s i j)) H) (.bad 2)
noncomputable def xLoad (t : Nat) (x : Operand) (C : Ctx) (τ : Tm) (H : Heap) : R :=
  onSome (ev x τ) (.bad 4) fun v => v.onPtr (v.onFpt (.bad 4) fun s i j => xLoadF t s i j C H) fun b o => loadC C H t b o (.bad 1) fun v => .val v H
noncomputable def storeB (H : Heap) (b o : Nat) (vs : List AV) (no : R) (κ : Heap → R) : R :=
  onSome (getK H.tr b) no fun k => k.onCells no fun e x c => c.puts o vs no fun c' => H.setB b (some (.cells e x c')) κ
noncomputable def storeC (C : Ctx) (H : Heap) (t b o : Nat) (v : AV) (no : R) (κ : Heap → R) : R :=
  onSome (C.tinf t) no fun i => ife (Nat.beq (lenAs v.cells) i.size) (ife (allOne v.cells) (storeB H b o v.cells no κ) no) no
noncomputable def xStore (t : Nat) (x y : Operand) (C : Ctx) (τ : Tm) (H : Heap) : R :=
  onSome (ev x τ) (.bad 5) fun p => onSome (ev y τ) (.bad 6) fun v => p.onPtr (.bad 6) fun b o => storeC C H t b o v (.bad 5) fun H => .val .undef H
noncomputable def xBox (t : Nat) (x : Operand) (_ : Ctx) (τ : Tm) (H : Heap) : R :=
  onSome (ev x τ) (.bad 9) fun v => ife (allOne v.cells) (H.new (.cells t true (.leaf v.cells)) (.bad 7) fun b H => .val (.ptr b 0) H) (.bad 8)
noncomputable def xAlloc (t : Nat) (C : Ctx) (_ : Tm) (H : Heap) : R :=
  onSome (C.tinf t) (.bad 12) fun i => onSome i.zero (.bad 11) fun z => H.new (.cells t true (.leaf z)) (.bad 10) fun b H => .val (.ptr b 0) H
/-- Parts laid into cells. -/
noncomputable def fillA (l : List (Nat × Operand)) : (Nat → Option (Nat × Nat)) → Tm → R → (BT → R) → BT → R :=
  List.rec (motive := fun _ => (Nat → Option (Nat × Nat)) → Tm → R → (BT → R) → BT → R) (fun _ _ _ κ c => κ c)
    (fun p _ ih place τ no κ c => onSome (place p.1) no fun q => onSome (ev p.2 τ) no fun v => ife (Nat.beq (lenAs v.cells) q.2) (ife (Nat.blt 0 q.2) (c.puts q.1 v.cells no fun c => ih place τ no κ c) no) no) l
noncomputable def nthEl (size i : Nat) : Option (Nat × Nat) := some (Nat.mul i size, size)
noncomputable def xBuild (t : Nat) (parts : Array (Nat × Operand)) (C : Ctx) (τ : Tm) (H : Heap) : R :=
  onSome (C.tinf t) (.bad 20) fun i => onSome i.zero (.bad 19) fun z =>
    i.d.onStruct (i.d.onArray (.bad 18) fun _ e => onSome (C.tinf e) (.bad 17) fun ei => fillA parts.toList (nthEl ei.size) τ (.bad 15) (fun c => c.ext 0 (lenAs z) (.bad 16) fun vs => .val (.agg vs) H) (.leaf z))
      fun _ => onSome i.plc (.bad 13) fun pl => fillA parts.toList (nth pl) τ (.bad 13) (fun c => c.ext 0 (lenAs z) (.bad 14) fun vs => .val (.agg vs) H) (.leaf z)
noncomputable def xBuildSlice (t len : Nat) (parts : Array (Nat × Operand)) (C : Ctx) (τ : Tm) (H : Heap) : R :=
  onSome (C.tinf t) (.bad 27) fun i => i.d.onSlice (.bad 26) fun e => onSome (C.tinf e) (.bad 25) fun ei =>
    ife (Nat.ble (Nat.mul len ei.size) 100000) (ife (Nat.blt 0 ei.size) (onSome ei.zero (.bad 23) fun z => ife (Nat.beq (lenAs z) ei.size)
      (fillA parts.toList (nthEl ei.size) τ (.bad 21) (fun c => H.new (.cells e true c) (.bad 22) fun b H => .val (.slc b 0 len len true ei.size) H) (BT.fill 24 z len)) (.bad 60)) (.bad 24)) (.bad 24)
noncomputable def xNil (x : Operand) (_ : Ctx) (τ : Tm) (H : Heap) : R :=
  onSome (ev x τ) (.bad 28) fun v => v.onPtr (v.onFn (v.onIface (v.onFpt (.bad 28) fun _ _ _ => .val v H) fun _ _ => .val v H) fun _ _ => .val v H) fun _ _ => .val v H
noncomputable def xPick (c a b : Operand) (C : Ctx) (τ : Tm) (H : Heap) : R :=
  onSome (ev c τ) (.bad 31) fun v => v.onBool (.bad 31) fun s => onSome (decB C s) (.ask (.bool s)) fun q =>
    ife q (onSome (ev a τ) (.bad 29) fun v => .val v H) (onSome (ev b τ) (.bad 30) fun v => .val v H)
noncomputable def xMove (x : Operand) (_ : Ctx) (τ : Tm) (H : Heap) : R := onSome (ev x τ) (.bad 32) fun v => .val v H
noncomputable def partA (C : Ctx) (t : Nat) (cs : List AV) (off : Nat) (no : R) (κ : AV → R) : R :=
  onSome (C.tinf t) no fun i => ife i.agg (takeK i.size (dropA off cs) no fun vs => κ (.agg vs)) (onSome (nthA cs off) no κ)
noncomputable def aliveB (H : Heap) (b : Nat) : Bool := onSome (H.get b) false fun k => k.onCells false fun _ _ _ => true
noncomputable def andER (x : R) : R → R := R.rec (motive := fun _ => R → R)
  (fun _ _ => fun _ => .bad 232)
  (fun _ _ => fun _ => .bad 232)
  (fun _ _ => fun _ => .bad 232)
  (fun _ _ => fun _ => .bad 232)
  (fun b => fun κ => ife b κ (.yes false))
  (fun n => fun _ => .bad n)
  (fun a => fun _ => .ask a)
  (fun _ => fun _ => .bad 232)
  (fun _ _ => fun _ => .bad 232)
  (fun _ _ => fun _ => .bad 232)
  (fun _ => fun _ => .bad 232) x
noncomputable def eqFds (eq : Nat → AV → AV → R) (C : Ctx) (xs ys : List AV) : List Fd → R
  | [] => .yes true
  | f :: l => ife f.blank (eqFds eq C xs ys l)
      (partA C f.ty xs f.off (.bad 33) fun x => partA C f.ty ys f.off (.bad 33) fun y => andER (eq f.ty x y) (eqFds eq C xs ys l))
noncomputable def eqArr (eq : Nat → AV → AV → R) (C : Ctx) (xs ys : List AV) (e n : Nat) (k : Nat) : Nat → R :=
  Nat.rec (motive := fun _ => Nat → R) (fun _ => .yes true) (fun _ ih i => partA C e xs (Nat.mul i n) (.bad 33) fun x => partA C e ys (Nat.mul i n) (.bad 33) fun y => andER (eq e x y) (ih (Nat.succ i))) k
noncomputable def decER (a : Atom) (o : Option Bool) : R := onSome o (.ask a) .yes
noncomputable def eqInt (C : Ctx) (x y : AV) : R := x.onInt (.bad 33) fun k a => y.onInt (.bad 33) fun k' b => ife (beqK k k') (decER (.eq a b) (decEq C a b)) (.bad 33)
noncomputable def eqBool (C : Ctx) (x y : AV) : R := x.onBool (.bad 33) fun a => y.onBool (.bad 33) fun b => ife (beqSB a b) (.yes true) (onSome (decB C a) (.ask (.bool a)) fun p => onSome (decB C b) (.ask (.bool b)) fun q => .yes (beqB p q))
noncomputable def eqStr (x y : AV) : R := x.onStr (.bad 33) fun a => y.onStr (.bad 33) fun b => .yes (beqNs a b)
noncomputable def eqPtr (C : Ctx) (H : Heap) (e : Nat) (x y : AV) : R :=
  x.onPtr (x.onNil (.bad 33) (y.onNil (y.onPtr (.bad 33) fun _ _ => .yes false) (.yes true))) fun b o => y.onPtr (y.onNil (.bad 33) (.yes false)) fun b' o' =>
    onSome (C.tinf e) (.bad 33) fun ei => ife (Nat.beq ei.size 0) (.bad 33) (ife (Nat.beq b b') (.yes (Nat.beq o o')) (ife (aliveB H b) (ife (aliveB H b') (.yes false) (.bad 33)) (.bad 33)))
noncomputable def eqIface (x y : AV) : R := x.onNili (x.onIface (.bad 33) fun _ _ => y.onNili (.bad 33) (.yes false)) (y.onNili (y.onIface (.bad 33) fun _ _ => .yes false) (.yes true))
noncomputable def eqSlice (x y : AV) : R := x.onNils (x.onSlc (x.onEtl (.bad 33) fun _ _ _ _ => y.onNils (.bad 33) (.yes false)) fun _ _ _ _ _ _ => y.onNils (.bad 33) (.yes false)) (y.onNils (y.onSlc (y.onEtl (.bad 33) fun _ _ _ _ => .yes false) fun _ _ _ _ _ _ => .yes false) (.yes true))
noncomputable def eqMap (x y : AV) : R := x.onNilm (x.onMap (.bad 33) fun _ => y.onNilm (.bad 33) (.yes false)) (y.onNilm (y.onMap (.bad 33) fun _ => .yes false) (.yes true))
noncomputable def eqFunc (x y : AV) : R := x.onNilf (x.onFn (.bad 33) fun _ _ => y.onNilf (.bad 33) (.yes false)) (y.onNilf (y.onFn (.bad 33) fun _ _ => .yes false) (.yes true))
noncomputable def eqStruct (C : Ctx) (eq : Nat → AV → AV → R) (i : TInf) (x y : AV) : R := x.onAgg (.bad 33) fun xs => y.onAgg (.bad 33) fun ys => ife i.stood (.bad 33) (eqFds eq C xs ys i.flds)
noncomputable def eqArray (C : Ctx) (eq : Nat → AV → AV → R) (n e : Nat) (x y : AV) : R := x.onAgg (.bad 33) fun xs => y.onAgg (.bad 33) fun ys => onSome (C.tinf e) (.bad 33) fun ei => eqArr eq C xs ys e ei.size n 0
noncomputable def eqD (x : TypeDesc) : Ctx → Heap → (Nat → AV → AV → R) → TInf → AV → AV → R := TypeDesc.rec (motive := fun _ => Ctx → Heap → (Nat → AV → AV → R) → TInf → AV → AV → R)
  (fun _ _ _ _ _ _ => .bad 33)
  (fun C _ _ _ x y => eqBool C x y)
  (fun _ => fun C _ _ _ x y => eqInt C x y)
  (fun _ => fun _ _ _ _ _ _ => .bad 33)
  (fun _ => fun _ _ _ _ _ _ => .bad 33)
  (fun _ _ _ _ x y => eqStr x y)
  (fun _ _ _ _ _ _ => .bad 33)
  (fun e => fun C H _ _ x y => eqPtr C H e x y)
  (fun _ => fun _ _ _ _ x y => eqSlice x y)
  (fun n e => fun C _ eq _ x y => eqArray C eq n e x y)
  (fun _ _ => fun _ _ _ _ x y => eqMap x y)
  (fun _ _ => fun _ _ _ _ _ _ => .bad 33)
  (fun _ => fun C _ eq i x y => eqStruct C eq i x y)
  (fun _ _ _ => fun _ _ _ _ x y => eqFunc x y)
  (fun _ => fun _ _ _ _ x y => eqIface x y)
  (fun _ => fun _ _ _ _ _ _ => .bad 33)
  (fun _ _ => fun _ _ _ _ _ _ => .bad 33) x
noncomputable def eqStep (C : Ctx) (H : Heap) (eq : Nat → AV → AV → R) (t : Nat) (x y : AV) : R := onSome (C.tinf t) (.bad 33) fun i => eqD i.d C H eq i x y
noncomputable def eqA (C : Ctx) (H : Heap) (f : Nat) : Nat → AV → AV → R := Nat.rec (motive := fun _ => Nat → AV → AV → R) (fun _ _ _ => (.bad 33)) (fun _ ih => eqStep C H ih) f
noncomputable def isConstO : Operand → Bool
  | .const _ => true
  | _ => false
noncomputable def guardA (C : Ctx) (t : Nat) (x y : Operand) (a b : AV) : Bool :=
  a.onAgg (a.onNili true (b.onNili true (ife (isConstO x) true (isConstO y)))) fun _ => onSome (C.tinf t) false fun i => ife i.guard false true
noncomputable def notER (x : R) : Bool → Heap → R := R.rec (motive := fun _ => Bool → Heap → R)
  (fun _ _ => fun _ _ => .bad 232)
  (fun _ _ => fun _ _ => .bad 232)
  (fun _ _ => fun _ _ => .bad 232)
  (fun _ _ => fun _ _ => .bad 232)
  (fun b => fun neg H => .val (.bool (.lit (ife neg (ife b false true) b))) H)
  (fun n => fun _ _ => .bad n)
  (fun a => fun _ _ => .ask a)
  (fun _ => fun _ _ => .bad 232)
  (fun _ _ => fun _ _ => .bad 232)
  (fun _ _ => fun _ _ => .bad 232)
  (fun _ => fun _ _ => .bad 232) x
noncomputable def eqX (C : Ctx) (H : Heap) (neg : Bool) (t : Nat) (x y : Operand) (a b : AV) : R := ife (guardA C t x y a b) (notER (eqA C H 40 t a b) neg H) (.bad 34)
noncomputable def intX (f : IOp) (k : IntKind) (a b : SI) (H : Heap) : R := SI.bin f k a b fun e => .val (.int k e) H
noncomputable def nonZero (e : SI) : Bool := e.onLit false fun n => ife (ieq n 0) false true
noncomputable def notNeg (C : Ctx) (e : SI) : Bool := onSome (decLt C e (.lit 0)) false fun b => ife b false true
noncomputable def boolX (neg : Bool) (a : Atom) (o : Option Bool) (H : Heap) : R := onSome o (.ask a) fun b => .val (.bool (.lit (ife neg (ife b false true) b))) H
noncomputable def intBin (x : BinOp) : IntKind → SI → SI → Ctx → Heap → R := BinOp.rec (motive := fun _ => IntKind → SI → SI → Ctx → Heap → R)
  (fun k a b _ H => intX .add k a b H)
  (fun k a b _ H => intX .sub k a b H)
  (fun k a b _ H => intX .mul k a b H)
  (fun k a b _ H => ife (nonZero b) (intX .quo k a b H) (.bad 35))
  (fun k a b _ H => ife (nonZero b) (intX .rem k a b H) (.bad 36))
  (fun k a b _ H => intX .and k a b H)
  (fun k a b _ H => intX .or k a b H)
  (fun k a b _ H => intX .xor k a b H)
  (fun k a b C H => ife (notNeg C b) (intX .shl k a b H) (.bad 38))
  (fun k a b C H => ife (notNeg C b) (intX .shr k a b H) (.bad 39))
  (fun k a b _ H => intX .andNot k a b H)
  (fun _ a b C H => boolX false (.eq a b) (decEq C a b) H)
  (fun _ a b C H => boolX true (.eq a b) (decEq C a b) H)
  (fun _ a b C H => boolX false (.lt a b) (decLt C a b) H)
  (fun _ a b C H => boolX true (.lt b a) (decLt C b a) H)
  (fun _ a b C H => boolX false (.lt b a) (decLt C b a) H)
  (fun _ a b C H => boolX true (.lt a b) (decLt C a b) H) x
noncomputable def isShift (x : BinOp) : Bool := BinOp.rec (motive := fun _ => Bool)
  (false)
  (false)
  (false)
  (false)
  (false)
  (false)
  (false)
  (false)
  (true)
  (true)
  (false)
  (false)
  (false)
  (false)
  (false)
  (false)
  (false) x
noncomputable def strBin (x : BinOp) : List Nat → List Nat → Heap → R := BinOp.rec (motive := fun _ => List Nat → List Nat → Heap → R)
  (fun _ _ _ => .bad 41)
  (fun _ _ _ => .bad 41)
  (fun _ _ _ => .bad 41)
  (fun _ _ _ => .bad 41)
  (fun _ _ _ => .bad 41)
  (fun _ _ _ => .bad 41)
  (fun _ _ _ => .bad 41)
  (fun _ _ _ => .bad 41)
  (fun _ _ _ => .bad 41)
  (fun _ _ _ => .bad 41)
  (fun _ _ _ => .bad 41)
  (fun a b H => .val (.bool (.lit (beqNs a b))) H)
  (fun a b H => .val (.bool (.lit (ife (beqNs a b) false true))) H)
  (fun _ _ _ => .bad 41)
  (fun _ _ _ => .bad 41)
  (fun _ _ _ => .bad 41)
  (fun _ _ _ => .bad 41) x
noncomputable def anyBin (x : BinOp) : Ctx → Heap → Nat → Operand → Operand → AV → AV → R := BinOp.rec (motive := fun _ => Ctx → Heap → Nat → Operand → Operand → AV → AV → R)
  (fun _ _ _ _ _ _ _ => .bad 42)
  (fun _ _ _ _ _ _ _ => .bad 42)
  (fun _ _ _ _ _ _ _ => .bad 42)
  (fun _ _ _ _ _ _ _ => .bad 42)
  (fun _ _ _ _ _ _ _ => .bad 42)
  (fun _ _ _ _ _ _ _ => .bad 42)
  (fun _ _ _ _ _ _ _ => .bad 42)
  (fun _ _ _ _ _ _ _ => .bad 42)
  (fun _ _ _ _ _ _ _ => .bad 42)
  (fun _ _ _ _ _ _ _ => .bad 42)
  (fun _ _ _ _ _ _ _ => .bad 42)
  (fun C H t x y a b => eqX C H false t x y a b)
  (fun C H t x y a b => eqX C H true t x y a b)
  (fun _ _ _ _ _ _ _ => .bad 42)
  (fun _ _ _ _ _ _ _ => .bad 42)
  (fun _ _ _ _ _ _ _ => .bad 42)
  (fun _ _ _ _ _ _ _ => .bad 42) x
noncomputable def xBin (op : BinOp) (t : Nat) (x y : Operand) (C : Ctx) (τ : Tm) (H : Heap) : R :=
  onSome (ev x τ) (.bad 43) fun a => onSome (ev y τ) (.bad 43) fun b =>
    a.onInt (a.onStr (anyBin op C H t x y a b) fun s => b.onStr (.bad 41) fun s' => strBin op s s' H)
      fun k e => b.onInt (.bad 40) fun k' e' => ife (ife (isShift op) true (beqK k k')) (intBin op k e e' C H) (.bad 40)
noncomputable def unNot (v : AV) (C : Ctx) (H : Heap) : R := v.onBool (.bad 44) fun s => onSome (decB C s) (.ask (.bool s)) fun b => .val (.bool (.lit (ife b false true))) H
noncomputable def unNeg (v : AV) (H : Heap) : R := v.onInt (.bad 44) fun k a => intX .sub k (.lit 0) a H
noncomputable def unXor (v : AV) (H : Heap) : R := v.onInt (.bad 44) fun k a => intX .xor k (.lit (ife k.signed (-1) (.ofNat (kmax k)))) a H
noncomputable def unOp (x : UnOp) : AV → Ctx → Heap → R := UnOp.rec (motive := fun _ => AV → Ctx → Heap → R)
  (fun v _ H => unNeg v H)
  (fun v _ H => unXor v H)
  (unNot)
  (fun _ _ _ => .bad 44) x
noncomputable def xUn (op : UnOp) (x : Operand) (C : Ctx) (τ : Tm) (H : Heap) : R := onSome (ev x τ) (.bad 44) fun v => unOp op v C H
noncomputable def convPtr (s d : TInf) (C : Ctx) (v : AV) (H : Heap) : R :=
  s.d.onPointer (s.d.onUnsafePointer (.bad 49) (d.d.onPointer (.bad 49) fun u => v.onPtr (v.onNil (.bad 48) (.val v H)) fun b o => onSome (C.tinf u) (.bad 48) fun _ => onSome (H.get b) (.bad 48) fun k => k.onCells (.bad 48) fun e ex c =>
      ife ex (ife (liesAt C.P C.P.depth e (Nat.div c.len (C.P.cellsOf e)) o u 1) (.val v H) (.bad 47)) (.bad 48)))
    fun t => d.d.onUnsafePointer (.bad 49) (v.onPtr (v.onNil (.bad 46) (.val v H)) fun b o => onSome (H.get b) (.bad 46) fun k => k.onCells (.bad 46) fun _ ex c => onSome (C.tinf t) (.bad 46) fun ti =>
      ife ex (ife (Nat.blt o c.len) (ife (Nat.blt 0 ti.size) (.val v H) (.bad 45)) (.bad 45)) (.bad 46))
noncomputable def xConvert (src dst : Nat) (x : Operand) (C : Ctx) (τ : Tm) (H : Heap) : R :=
  onSome (ev x τ) (.bad 50) fun v => onSome (C.tinf dst) (.bad 50) fun d => onSome (C.tinf src) (.bad 50) fun s =>
    v.onInt (v.onStr (convPtr s d C v H) fun _ => d.d.onString (.bad 49) (.val v H)) fun _ a => d.d.onInt (.bad 49) fun k => intX .conv k a (.lit 0) H
noncomputable def xField (t : Nat) (x : Operand) (f : Nat) (C : Ctx) (τ : Tm) (H : Heap) : R :=
  onSome (ev x τ) (.bad 53) fun v => v.onAgg (.bad 53) fun cs => onSome (C.tinf t) (.bad 53) fun i => i.d.onStruct (.bad 53) fun _ => onSome (nth i.flds f) (.bad 52) fun fd => partA C fd.ty cs fd.off (.bad 51) fun v => .val v H
noncomputable def xFieldAddr (t : Nat) (x : Operand) (f : Nat) (C : Ctx) (τ : Tm) (H : Heap) : R :=
  onSome (ev x τ) (.bad 57) fun v => onSome (C.tinf t) (.bad 57) fun i => onSome (nth i.flds f) (.bad 56) fun fd => ife (Nat.beq fd.size 0) (.bad 54)
    (v.onPtr (v.onFpt (.bad 55) fun s i j => forceN (Nat.add j fd.off) fun j => .val (.fpt s i j) H) fun b o => forceN (Nat.add o fd.off) fun o => .val (.ptr b o) H)
noncomputable def onNat {β : Type} (e : SI) (no : β) (κ : Nat → β) : β := e.onLit no fun n => Int.casesOn (motive := fun _ => β → (Nat → β) → β) n (fun n _ κ => κ n) (fun _ no _ => no) no κ
noncomputable def atF (s el : Nat) (e : SI) (C : Ctx) (H : Heap) : R :=
  onSome (C.tinf el) (.bad 62) fun ei => onSome (nth C.fk s) (.bad 62) fun ks => ife (Nat.beq (lenL ks) ei.size)
    (onSome (decLt C e (.lit 0)) (.ask (.lt e (.lit 0))) fun b => ife b (.bad 64) (onSome (decLt C e (.len s)) (.ask (.lt e (.len s))) fun b => ife b (.val (.fpt s e 0) H) (.bad 63))) (.bad 62)
noncomputable def xIndexAddr (t : Nat) (x ix : Operand) (C : Ctx) (τ : Tm) (H : Heap) : R :=
  onSome (ev x τ) (.bad 66) fun v => onSome (ev ix τ) (.bad 66) fun w => w.onInt (.bad 66) fun _ e => onSome (C.tinf t) (.bad 66) fun i =>
    i.d.onArray (i.d.onSlice (.bad 65) fun el => v.onSlc (v.onFsl (.bad 65) fun s => atF s el e C H) fun b o len _ _ esz => onSome (C.tinf el) (.bad 62) fun ei => onNat e (.bad 62) fun q =>
        ife (Nat.blt q len) (ife (Nat.beq esz ei.size) (forceN (Nat.add o (Nat.mul q esz)) fun o => .val (.ptr b o) H) (.bad 61)) (.bad 61))
      fun n el => v.onPtr (.bad 65) fun b o => onSome (C.tinf el) (.bad 59) fun ei => onNat e (.bad 59) fun q => ife (Nat.blt q n) (forceN (Nat.add o (Nat.mul q ei.size)) fun o => .val (.ptr b o) H) (.bad 58)
noncomputable def xIndex (t : Nat) (x ix : Operand) (C : Ctx) (τ : Tm) (H : Heap) : R :=
  onSome (ev x τ) (.bad 72) fun v => onSome (ev ix τ) (.bad 72) fun w => w.onInt (.bad 72) fun _ e => onNat e (.bad 71) fun q => onSome (C.tinf t) (.bad 72) fun i =>
    v.onStr (v.onAgg (.bad 71) fun cs => i.d.onArray (.bad 71) fun n el => onSome (C.tinf el) (.bad 69) fun ei => ife (Nat.blt q n) (partA C el cs (Nat.mul q ei.size) (.bad 67) fun v => .val v H) (.bad 68))
      fun l => i.d.onString (.bad 71) (onSome (nth l q) (.bad 70) fun c => .val (.int .u8 (.lit (.ofNat c))) H)
noncomputable def evOpt (τ : Tm) (o : Option Operand) (no : R) (κ : Option Nat → R) : R := onSome o (κ none) fun x => onSome (ev x τ) no fun w => w.onInt no fun _ e => onNat e no fun n => κ (some n)
noncomputable def orN (o : Option Nat) (d : Nat) : Nat := onSome o d fun n => n
noncomputable def sliceStr (s : List Nat) (l : Nat) (hi mx : Option Nat) (H : Heap) : R :=
  onSome mx (forceN (orN hi (lenL s)) fun h => ife (Nat.ble h (lenL s)) (ife (Nat.ble l h) (takeN (Nat.sub h l) (dropL l s) (.bad 74) fun r => .val (.str r) H) (.bad 75)) (.bad 75)) fun _ => .bad 76
noncomputable def sliceArr (b o n esz l h m : Nat) (H : Heap) : R :=
  ife (Nat.ble m n) (ife (Nat.ble h m) (ife (Nat.ble l h) (ife (Nat.blt 0 esz) (forceN (ife (Nat.beq m l) o (Nat.add o (Nat.mul l esz))) fun o => forceN (Nat.sub h l) fun k => forceN (Nat.sub m l) fun c => .val (.slc b o k c true esz) H) (.bad 77)) (.bad 77)) (.bad 77)) (.bad 77)
/-- The same of an array that lies in a block. -/
noncomputable def sliceArrB (b o n esz l h m : Nat) (H : Heap) : R :=
  onSome (H.get b) (.bad 77) fun k => k.onCells (.bad 77) fun _ _ c => onSome (c.get (Nat.sub (Nat.add o (Nat.mul m esz)) 1)) (.bad 77) fun _ => ife (Nat.blt 0 m) (sliceArr b o n esz l h m H) (.bad 77)
/-- Where the capacity's bound is 'cap': from l up to h. -/
noncomputable def sliceSlc (b o cap : Nat) (ex : Bool) (esz l h : Nat) (H : Heap) : R :=
  ife (Nat.ble h cap) (ife (Nat.ble l h)
    (ife (ife (Nat.beq l 0) true (Nat.blt l cap)) (forceN (Nat.add o (Nat.mul l esz)) fun o => forceN (Nat.sub h l) fun k => forceN (Nat.sub cap l) fun c => .val (.slc b o k c ex esz) H)
      (ife ex (.val (.slc b o 0 0 true esz) H) (forceN (Nat.add o (Nat.mul l esz)) fun o2 => .val (.etl b o o2 esz) H))) (.bad 80)) (.bad 80)
noncomputable def xSlice (t : Nat) (x : Operand) (lo hi mx : Option Operand) (C : Ctx) (τ : Tm) (H : Heap) : R :=
  onSome (ev x τ) (.bad 85) fun v => evOpt τ lo (.bad 85) fun lo => evOpt τ hi (.bad 85) fun hi => evOpt τ mx (.bad 85) fun mx => onSome (C.tinf t) (.bad 85) fun i =>
    i.d.onString (i.d.onArray (i.d.onSlice (.bad 84) fun el => onSome (C.tinf el) (.bad 82) fun ei => ife (Nat.blt 0 ei.size)
        (v.onSlc (v.onNils (.bad 84) (ife (Nat.beq (orN lo 0) 0) (ife (Nat.beq (orN hi 0) 0) (ife (Nat.beq (orN mx 0) 0) (onSome mx (.val .nils H) fun _ => onSome hi (.bad 83) fun _ => .val .nils H) (.bad 83)) (.bad 83)) (.bad 83)))
          fun b o len cap ex esz => ife (Nat.beq esz ei.size) (onSome mx (sliceSlc b o cap ex esz (orN lo 0) (orN hi len) H) fun m => onSome hi (.bad 86) fun h => sliceArr b o cap esz (orN lo 0) h m H) (.bad 81)) (.bad 81))
      fun n el => v.onPtr (.bad 84) fun b o => onSome (C.tinf el) (.bad 78) fun ei => onSome mx (sliceArrB b o n ei.size (orN lo 0) (orN hi n) n H) fun m => onSome hi (.bad 86) fun h => sliceArrB b o n ei.size (orN lo 0) h m H)
      (v.onStr (.bad 84) fun s => sliceStr s (orN lo 0) hi mx H)
noncomputable def xExtract (x : Operand) (i : Nat) (_ : Ctx) (τ : Tm) (H : Heap) : R :=
  onSome (ev x τ) (.bad 87) fun v => v.onTup (.bad 87) fun vs => onSome (nthA vs i) (.bad 86) fun v => .val v H
noncomputable def isIface (x : TypeDesc) : Bool := TypeDesc.rec (motive := fun _ => Bool)
  (false)
  (false)
  (fun _ => false)
  (fun _ => false)
  (fun _ => false)
  (false)
  (false)
  (fun _ => false)
  (fun _ => false)
  (fun _ _ => false)
  (fun _ _ => false)
  (fun _ _ => false)
  (fun _ => false)
  (fun _ _ _ => false)
  (fun _ => true)
  (fun _ => false)
  (fun _ _ => false) x
noncomputable def xMakeIface (t : Nat) (x : Operand) (C : Ctx) (τ : Tm) (H : Heap) : R :=
  onSome (ev x τ) (.bad 89) fun v => onSome (C.tinf t) (.bad 89) fun i => ife (isIface i.d) (.bad 88) (.val (.iface t v) H)
noncomputable def notIt (ok : Bool) (i : TInf) (H : Heap) : R := ife ok (onSome (i.zv) (.bad 91) fun z => .val (.tup [z, .bool (.lit false)]) H) (.bad 92)
noncomputable def xAssert (x : Operand) (t u : Nat) (ok : Bool) (C : Ctx) (τ : Tm) (H : Heap) : R :=
  onSome (ev x τ) (.bad 94) fun v => onSome (C.tinf u) (.bad 94) fun i => ife (isIface i.d) (.bad 90)
    (v.onIface (v.onNili (.bad 93) (notIt ok i H)) fun t' w => ife (Nat.beq t' u) (.val (ife ok (.tup [w, .bool (.lit true)]) w) H) (notIt ok i H))
noncomputable def onFunc {β : Type} (f : Fn) (no : β) (κ : Nat → β) : β := match f with
  | .func f => κ f
  | _ => no
noncomputable def xMakeFunc (f : Fn) (first caps : Array Operand) (_ : Ctx) (τ : Tm) (H : Heap) : R :=
  onFunc f (.bad 95) fun f => onList first.toList (onSome (evs caps.toList τ) (.bad 95) fun cs => .val (.fn f cs) H) fun _ _ => .bad 95
noncomputable def xMakeMap (t : Nat) (r : Option Operand) (_ : Ctx) (_ : Tm) (H : Heap) : R := onSome r (H.new (.map []) (.bad 96) fun b H => .val (.map b) H) fun _ => .bad 97
noncomputable def xMakeChan (t : Nat) (x : Operand) (C : Ctx) (τ : Tm) (H : Heap) : R :=
  onSome (ev x τ) (.bad 102) fun w => w.onInt (.bad 102) fun _ e => onNat e (.bad 101) fun n => onSome (C.tinf t) (.bad 102) fun i => i.d.onChan (.bad 101) fun _ el => onSome (C.tinf el) (.bad 100) fun ei =>
    ife (Nat.ble n 1000) (ife (Nat.ble ei.bytes 1000) (H.new (.chan n []) (.bad 98) fun b H => .val (.chan b) H) (.bad 99)) (.bad 99)
noncomputable def xMakeSlice (t : Nat) (l c : Operand) (C : Ctx) (τ : Tm) (H : Heap) : R :=
  onSome (ev l τ) (.bad 108) fun l => onSome (ev c τ) (.bad 108) fun c => l.onInt (.bad 107) fun _ l => c.onInt (.bad 107) fun _ c => onNat l (.bad 107) fun l => onNat c (.bad 107) fun c =>
    onSome (C.tinf t) (.bad 108) fun i => i.d.onSlice (.bad 107) fun el => onSome (C.tinf el) (.bad 106) fun ei => onSome ei.zero (.bad 105) fun z =>
      ife (Nat.ble l c) (ife (Nat.ble c 1000000) (ife (Nat.ble ei.bytes 100000) (ife (Nat.blt 0 ei.size) (ife (Nat.beq (lenAs z) ei.size)
        (H.new (.cells el true (BT.fill 24 z c)) (.bad 103) fun b H => .val (.slc b 0 l c true ei.size) H) (.bad 104)) (.bad 104)) (.bad 104)) (.bad 104)) (.bad 104)
/-- A key in a map's entries: its place. -/
noncomputable def keyCell (a b : AV) : Option Bool := a.onInt none fun k x => x.onLit none fun x => b.onInt none fun k' y => y.onLit none fun y => ife (beqK k k') (some (ieq x y)) none
noncomputable def keyCells : List AV → List AV → Option Bool
  | [], [] => some true
  | a :: l, b :: m => onSome (keyCell a b) none fun q => ife q (keyCells l m) (some false)
  | _, _ => none
noncomputable def keyNow (a b : AV) : Option Bool := a.onAgg (keyCell a b) fun xs => b.onAgg none fun ys => keyCells xs ys
noncomputable def findA (l : List (AV × AV)) : AV → Nat → R → R → (Nat → AV → R) → R :=
  List.rec (motive := fun _ => AV → Nat → R → R → (Nat → AV → R) → R) (fun _ _ _ no _ => no)
    (fun p _ ih k i bad no at_ => onSome (keyNow k p.1) bad fun q => ife q (at_ i p.2) (ih k (Nat.succ i) bad no at_)) l
/-- Is it a key that the machine takes, of its type? -/
noncomputable def keyInt (d : TypeDesc) (k : AV) : Bool := d.onInt false fun kk => k.onInt false fun k e => e.onLit false fun _ => beqK kk k
noncomputable def keyFds (C : Ctx) : List Fd → Nat → List AV → Bool
  | [], _, cs => onList cs true fun _ _ => false
  | f :: l, o, cs => onList cs false fun c cs => onSome (C.tinf f.ty) false fun i => ife (keyInt i.d c) (ife f.blank false (ife (Nat.beq f.off o) (keyFds C l (Nat.succ o) cs) false)) false
noncomputable def keyOk (C : Ctx) (t : Nat) (k : AV) : Bool := onSome (C.tinf t) false fun i => k.onAgg (keyInt i.d k) fun cs => i.d.onStruct false fun _ => ife i.stood false (keyFds C i.flds 0 cs)
noncomputable def lookEnd (ok : Bool) (v : AV) (b : Bool) (H : Heap) : R := .val (ife ok (.tup [v, .bool (.lit b)]) v) H
noncomputable def xLookup (t : Nat) (x ix : Operand) (ok : Bool) (C : Ctx) (τ : Tm) (H : Heap) : R :=
  onSome (ev x τ) (.bad 116) fun m => onSome (ev ix τ) (.bad 116) fun k => onSome (C.tinf t) (.bad 116) fun i => i.d.onMap (.bad 115) fun kt et => onSome (C.tinf et) (.bad 114) fun ei =>
    ife (keyOk C kt k) (m.onMap (m.onNilm (.bad 112) (onSome (ei.zv) (.bad 109) fun z => lookEnd ok z false H)) fun b => onSome (H.get b) (.bad 111) fun q => q.onMap (.bad 111) fun es =>
      findA es k 0 (.bad 110) (onSome (ei.zv) (.bad 109) fun z => lookEnd ok z false H) fun _ v => lookEnd ok v true H) (.bad 113)
/-- v in the place i. -/
noncomputable def setAtK (v : AV) (no : R) (l : List (AV × AV)) : Nat → (List (AV × AV) → R) → R :=
  List.rec (motive := fun _ => Nat → (List (AV × AV) → R) → R) (fun _ _ => no) (fun p l ih i => Nat.rec (motive := fun _ => (List (AV × AV) → R) → R) (fun κ => κ ((p.1, v) :: l)) (fun i _ κ => ih i (fun r => κ (p :: r))) i) l
noncomputable def eraseK (no : R) (l : List (AV × AV)) : Nat → (List (AV × AV) → R) → R :=
  List.rec (motive := fun _ => Nat → (List (AV × AV) → R) → R) (fun _ _ => no) (fun p l ih i => Nat.rec (motive := fun _ => (List (AV × AV) → R) → R) (fun κ => κ l) (fun i _ κ => ih i (fun r => κ (p :: r))) i) l
noncomputable def setAtA (i : Nat) (v : AV) (l : List (AV × AV)) (no : R) (κ : List (AV × AV) → R) : R := setAtK v no l i κ
noncomputable def noIt (H : Heap) (r : R) : R := onSome H.it r fun _ => .bad 233
noncomputable def xMapUpdate (t : Nat) (x k y : Operand) (C : Ctx) (τ : Tm) (H : Heap) : R :=
  onSome (ev x τ) (.bad 122) fun m => onSome (ev k τ) (.bad 122) fun k => onSome (ev y τ) (.bad 122) fun v => m.onMap (.bad 122) fun b => onSome (C.tinf t) (.bad 121) fun i => i.d.onMap (.bad 121) fun kt _ =>
    ife (keyOk C kt k) (noIt H <| onSome (getK H.tr b) (.bad 119) fun q => q.onMap (.bad 119) fun es =>
      findA es k 0 (.bad 118) (H.setB b (some (.map (List.append es [(k, v)]))) fun H => .val .undef H) fun i _ => setAtA i v es (.bad 117) fun es => H.setB b (some (.map es)) fun H => .val .undef H) (.bad 120)
noncomputable def eraseA (i : Nat) (l : List (AV × AV)) (no : R) (κ : List (AV × AV) → R) : R := eraseK no l i κ
noncomputable def xEntry (x : Operand) (_ : Ctx) (τ : Tm) (H : Heap) : R :=
  onSome (ev x τ) (.bad 124) fun v => v.onPtr (.bad 124) fun b o => ife (Nat.beq o 0) (onSome H.it (.bad 123) fun it => ife (Nat.beq it.b b) (onSome it.e (.bad 123) fun p => .val (.tup [p.1, p.2]) H) (.bad 123)) (.bad 124)
noncomputable def xRange (t : Nat) (x : Operand) (C : Ctx) (τ : Tm) (H : Heap) : R :=
  onSome (ev x τ) (.bad 127) fun v => v.onMap (.bad 127) fun m => onSome (C.tinf t) (.bad 127) fun i => i.d.onMap (.bad 126) fun _ _ => onSome (getK H.tr m) (.bad 126) fun k => k.onMap (.bad 126) fun _ =>
    onSome H.it (ife (Nat.blt H.next H.lim) (forceN (Nat.succ H.next) fun n => .val (.ptr H.next 0) ⟨H.tr, H.ro, n, H.lim, some ⟨H.next, m, none⟩⟩) (.bad 125)) fun _ => .bad 125
noncomputable def bytesOf (l : List Nat) : List AV := List.rec (motive := fun _ => List AV) [] (fun c _ ih => .int .u8 (.lit (.ofNat c)) :: ih) l
noncomputable def readB (H : Heap) (b o n : Nat) (no : R) (κ : List AV → R) : R := ife (Nat.beq n 0) (κ []) (onSome (H.get b) no fun k => k.onCells no fun _ _ c => c.ext o n no κ)
noncomputable def readsA (H : Heap) (size : Nat) (n : Nat) (v : AV) (no : R) (κ : List AV → R) : R :=
  v.onSlc (v.onStr (v.onNils (v.onEtl no fun _ _ _ _ => κ []) (κ [])) fun l => ife (Nat.beq size 1) (takeN n l no fun l => κ (bytesOf l)) no)
    fun b o _ _ _ esz => ife (Nat.beq esz size) (readB H b o (Nat.mul n size) no κ) no
noncomputable def lenA (v : AV) : Option Nat := v.onSlc (v.onStr (v.onNils (v.onEtl none fun _ _ _ _ => some 0) (some 0)) fun l => some (lenL l)) fun _ _ n _ _ _ => some n
noncomputable def newSlc (el n : Nat) (esz : Nat) (cs : List AV) (H : Heap) : R := H.new (.cells el false (.leaf cs)) (.bad 128) fun b H => .val (.slc b 0 n n false esz) H
/-- A slice whose capacity is not known gets longer: its block is given up, and what it holds stands under a new number. -/
noncomputable def appNew (el esz need b : Nat) (new cs : List AV) (H : Heap) : R :=
  ife (allOne new) (onSome (getK H.tr b) (.bad 135) fun k => k.onCells (.bad 135) fun t _ _ => ife (Nat.beq t el) (H.setB b none fun H => newSlc el need esz cs H) (.bad 135)) (.bad 135)
noncomputable def appSlc (el esz n : Nat) (new : List AV) (H : Heap) (s : AV) (b o len cap : Nat) (ex : Bool) : R :=
  forceN (Nat.add len n) fun need => ife (Nat.ble need 1000000) (ife (Nat.ble need cap)
    (ife (Nat.beq n 0) (.val s H) (ife (allOne new) (storeB H b (Nat.add o (Nat.mul len esz)) new (.bad 131) fun H => .val (.slc b o need cap ex esz) H) (.bad 131)))
    (readB H b o (Nat.mul len esz) (.bad 133) fun old => appK old new fun cs => ife ex (newSlc el need esz cs H) (appNew el esz need b new cs H))) (.bad 134)
noncomputable def appGo (el esz n : Nat) (new : List AV) (H : Heap) (s : AV) : R :=
  s.onSlc (s.onNils (s.onEtl (.bad 137) fun b _ _ z => ife (Nat.beq n 0) (.val s H) (ife (Nat.beq z esz) (appNew el esz n b new new H) (.bad 130)))
      (ife (Nat.beq n 0) (.val .nils H) (newSlc el n esz new H)))
    fun b o len cap ex z => ife (Nat.beq z esz) (appSlc el esz n new H s b o len cap ex) (.bad 136)
noncomputable def xAppend (st xt : Nat) (s x : AV) (C : Ctx) (H : Heap) : R :=
  onSome (C.tinf st) (.bad 148) fun i => i.d.onSlice (.bad 147) fun el => onSome (C.tinf el) (.bad 146) fun ei => onSome (C.tinf xt) (.bad 143) fun xi => onSome ei.zero (.bad 140) fun z =>
    ife (Nat.ble ei.bytes 100000) (ife (Nat.blt 0 ei.size) (ife (Nat.beq (lenAs z) ei.size)
      (x.onInt (xi.d.onInt (onSome (lenA x) (.bad 143) fun n => ife (Nat.ble n 1000000) (readsA H ei.size n x (.bad 142) fun cs => appGo el ei.size n cs H s) (.bad 142)) fun _ => .bad 141)
        fun _ e => xi.d.onInt (.bad 139) fun _ => onNat e (.bad 140) fun n => ife (Nat.ble n 100000) (appGo el ei.size n (repL n z) H s) (.bad 138)) (.bad 138)) (.bad 145)) (.bad 145)
noncomputable def xCopy (dt : Nat) (d s : AV) (C : Ctx) (H : Heap) : R :=
  onSome (C.tinf dt) (.bad 156) fun i => i.d.onSlice (.bad 155) fun el => onSome (C.tinf el) (.bad 154) fun ei => onSome (lenA s) (.bad 154) fun sn => onSome (lenA d) (.bad 154) fun dn => d.onStr
    (forceN (ife (Nat.ble sn dn) sn dn) fun n => ife (Nat.beq n 0) (.val (.int .i64 (.lit (.ofNat 0))) H)
      (readsA H ei.size n s (.bad 149) fun cs => d.onSlc (.bad 153) fun b o _ _ _ esz => ife (Nat.beq esz ei.size) (ife (allOne cs) (storeB H b o cs (.bad 150) fun H => .val (.int .i64 (.lit (.ofNat n))) H) (.bad 151)) (.bad 152)))
    fun _ => .bad 153
noncomputable def retN (H : Heap) (n : Nat) : R := .val (.int .i64 (.lit (.ofNat n))) H
noncomputable def lenSlice (x : AV) (C : Ctx) (H : Heap) : R := x.onSlc (x.onNils (x.onEtl (x.onFsl (.bad 161) fun s => onSome (nth C.fk s) (.bad 161) fun _ => .val (.int .i64 (.len s)) H) fun _ _ _ _ => retN H 0) (retN H 0)) fun _ _ n _ _ _ => retN H n
noncomputable def lenMap (x : AV) (H : Heap) : R := x.onMap (x.onNilm (.bad 161) (retN H 0)) fun b => onSome (H.get b) (.bad 157) fun k => k.onMap (.bad 157) fun es => forceN (lenL es) (retN H)
noncomputable def lenChan (x : AV) (H : Heap) : R := x.onChan (x.onNilc (.bad 161) (retN H 0)) fun b => onSome (H.get b) (.bad 158) fun k => k.onChan (.bad 158) fun _ buf => forceN (lenAs buf) (retN H)
noncomputable def lenD (x : TypeDesc) : AV → Ctx → Heap → R := TypeDesc.rec (motive := fun _ => AV → Ctx → Heap → R)
  (fun _ _ _ => .bad 161)
  (fun _ _ _ => .bad 161)
  (fun _ => fun _ _ _ => .bad 161)
  (fun _ => fun _ _ _ => .bad 161)
  (fun _ => fun _ _ _ => .bad 161)
  (fun x _ H => x.onStr (.bad 161) fun l => forceN (lenL l) (retN H))
  (fun _ _ _ => .bad 161)
  (fun a => fun _ C H => onSome (C.tinf a) (.bad 160) fun ai => ai.d.onArray (.bad 159) fun n _ => retN H n)
  (fun _ => fun x C H => lenSlice x C H)
  (fun n _ => fun _ _ H => retN H n)
  (fun _ _ => fun x _ H => lenMap x H)
  (fun _ _ => fun x _ H => lenChan x H)
  (fun _ => fun _ _ _ => .bad 161)
  (fun _ _ _ => fun _ _ _ => .bad 161)
  (fun _ => fun _ _ _ => .bad 161)
  (fun _ => fun _ _ _ => .bad 161)
  (fun _ _ => fun _ _ _ => .bad 161) x
noncomputable def xLen (t : Nat) (x : AV) (C : Ctx) (H : Heap) : R := onSome (C.tinf t) (.bad 162) fun i => lenD i.d x C H
noncomputable def xCap (t : Nat) (x : AV) (C : Ctx) (H : Heap) : R :=
  onSome (C.tinf t) (.bad 164) fun i => i.d.onArray (i.d.onSlice (.bad 163) fun _ => x.onSlc (x.onNils (.bad 163) (retN H 0)) fun _ _ _ cap ex _ => ife ex (retN H cap) (.bad 163)) fun n _ => retN H n
noncomputable def clearSlc (el b o n esz : Nat) (C : Ctx) (H : Heap) : R :=
  ife (Nat.beq n 0) (.val .undef H) (onSome (C.tinf el) (.bad 168) fun ei => onSome ei.zero (.bad 167) fun z => ife (Nat.beq esz ei.size) (ife (Nat.beq (lenAs z) ei.size) (ife (Nat.ble n 100000) (storeB H b o (repL n z) (.bad 165) fun H => .val .undef H) (.bad 166)) (.bad 166)) (.bad 166))
noncomputable def xClear (t : Nat) (x : AV) (C : Ctx) (H : Heap) : R :=
  onSome (C.tinf t) (.bad 171) fun i => i.d.onSlice (i.d.onMap (.bad 170) fun _ _ => x.onMap (.bad 170) fun b => noIt H <| onSome (getK H.tr b) (.bad 169) fun k => k.onMap (.bad 169) fun _ => H.setB b (some (.map [])) fun H => .val .undef H)
    fun el => x.onSlc (x.onNils (x.onEtl (.bad 170) fun _ _ _ _ => .val .undef H) (.val .undef H)) fun b o n _ _ esz => clearSlc el b o n esz C H
noncomputable def xDelete (t : Nat) (x k : AV) (C : Ctx) (H : Heap) : R :=
  onSome (C.tinf t) (.bad 177) fun i => i.d.onMap (.bad 176) fun kt _ => x.onMap (.bad 176) fun b => ife (keyOk C kt k) (noIt H <| onSome (getK H.tr b) (.bad 174) fun q => q.onMap (.bad 174) fun es =>
    findA es k 0 (.bad 173) (.val .undef H) fun i _ => eraseA i es (.bad 172) fun es => H.setB b (some (.map es)) fun H => .val .undef H) (.bad 175)
noncomputable def bytesA (l : List AV) : Option (List Nat) := List.rec (motive := fun _ => Option (List Nat)) (some []) (fun v _ ih => v.onInt none fun k e => ife (beqK k .u8) (onNat e none fun n => ife (Nat.blt n 256) (onSome ih none fun m => some (n :: m)) none) none) l
/-- The bytes of a block of bytes, as a string: the block is given up. -/
noncomputable def xUString (pt : Nat) (p x : AV) (C : Ctx) (H : Heap) : R :=
  onSome (C.tinf pt) (.bad 185) fun i => i.d.onPointer (.bad 184) fun el => x.onInt (.bad 184) fun _ e => onNat e (.bad 184) fun n => onSome (C.tinf el) (.bad 183) fun ei =>
    p.onPtr (.bad 182) fun b o => ife (Nat.beq o 0) (onSome (getK H.tr b) (.bad 181) fun k => k.onCells (.bad 181) fun e _ c => ife (Nat.beq e el) (ife (Nat.blt 0 n) (ife (Nat.ble n 1000000) (ife (Nat.beq ei.size 1)
      (c.ext 0 n (.bad 178) fun cs => onSome (bytesA cs) (.bad 179) fun l => H.setB b none fun H => .val (.str l) H) (.bad 180)) (.bad 180)) (.bad 180)) (.bad 182)) (.bad 182)
noncomputable def xSliceData (x : AV) (H : Heap) : R := x.onSlc (x.onNils (.bad 187) (.val .nil H)) fun b o n _ _ _ => ife (Nat.blt 0 n) (.val (.ptr b o) H) (.bad 186)
noncomputable def crOut (x : R) : (AV → Heap → R) → R := R.rec (motive := fun _ => (AV → Heap → R) → R)
  (fun v H => fun κ => κ v H)
  (fun _ _ => fun _ => .bad 230)
  (fun _ _ => fun _ => .bad 230)
  (fun _ _ => fun _ => .bad 230)
  (fun _ => fun _ => .bad 230)
  (fun n => fun _ => .bad n)
  (fun a => fun _ => .ask a)
  (fun _ => fun _ => .bad 230)
  (fun _ _ => fun _ => .bad 230)
  (fun _ _ => fun _ => .bad 230)
  (fun _ => fun _ => .bad 230) x
noncomputable def two (l : List AV) (κ : AV → AV → R) : R := onList l (.bad 188) fun a l => onList l (.bad 188) fun b l => onList l (κ a b) fun _ _ => .bad 188
noncomputable def one (l : List AV) (κ : AV → R) : R := onList l (.bad 188) fun a l => onList l (κ a) fun _ _ => .bad 188
noncomputable def ty1 (l : List Nat) (κ : Nat → R) : R := onList l (.bad 188) fun t _ => κ t
noncomputable def ty2 (l : List Nat) (κ : Nat → Nat → R) : R := onList l (.bad 188) fun t l => onList l (.bad 188) fun u _ => κ t u
noncomputable def xBuiltin (x : Builtin) : List Nat → List AV → Ctx → Heap → R := Builtin.rec (motive := fun _ => List Nat → List AV → Ctx → Heap → R)
  (fun ts as C H => ty2 ts fun t u => two as fun s x => xAppend t u s x C H)
  (fun ts as C H => ty1 ts fun t => one as fun x => xCap t x C H)
  (fun ts as C H => ty1 ts fun t => one as fun x => xClear t x C H)
  (fun _ _ _ _ => .bad 188)
  (fun _ _ _ _ => .bad 188)
  (fun ts as C H => ty1 ts fun t => two as fun d s => xCopy t d s C H)
  (fun ts as C H => ty1 ts fun t => two as fun x k => xDelete t x k C H)
  (fun _ _ _ _ => .bad 188)
  (fun ts as C H => ty1 ts fun t => one as fun x => xLen t x C H)
  (fun _ _ _ _ => .bad 188)
  (fun _ _ _ _ => .bad 188)
  (fun _ _ _ _ => .bad 188)
  (fun _ _ _ _ => .bad 188)
  (fun _ _ _ _ => .bad 188)
  (fun _ _ _ _ => .bad 188)
  (fun _ _ _ _ => .bad 188)
  (fun _ _ _ _ => .bad 188)
  (fun _ _ _ _ => .bad 188)
  (fun _ _ _ _ => .bad 188)
  (fun _ _ _ _ => .bad 188)
  (fun _ as _ H => one as fun x => xSliceData x H)
  (fun ts as C H => ty1 ts fun t => two as fun p n => xUString t p n C H)
  (fun _ _ _ _ => .bad 188)
  (fun _ _ _ _ => .bad 188)
  (fun _ _ _ _ => .bad 188)
  (fun _ _ _ _ => .bad 188) x
noncomputable def findMethod (name : String) : List Method → Option Method
  | [] => none
  | m :: l => ife (m.name == name) (some m) (findMethod name l)
/-- A method of a pointer's type. -/
noncomputable def methodA (C : Ctx) (t : Nat) (name : String) : Option Nat :=
  onSome (C.P.info? t) none fun i => onSome (C.tinf t) none fun ti => ti.d.onPointer none fun _ => onSome (findMethod name i.methods.toList) none fun m => onSome m.func none fun p => ife p.2 (ife m.path.isEmpty (some p.1) none) none
noncomputable def callV (f : Operand) (args : List AV) (τ : Tm) : R := onSome (ev f τ) (.bad 189) fun v => v.onFn (.bad 189) fun f cs => appK args cs fun as => .call f as
noncomputable def callI (r : Operand) (name : String) (args : List AV) (C : Ctx) (τ : Tm) : R := onSome (ev r τ) (.bad 191) fun w => w.onIface (.bad 191) fun t v => onSome (methodA C t name) (.bad 190) fun f => .call f (v :: args)
noncomputable def xCallee (x : Callee) : List Nat → List AV → Ctx → Tm → Heap → R := Callee.rec (motive := fun _ => List Nat → List AV → Ctx → Tm → Heap → R)
  (fun f => fun _ as _ τ _ => callV f as τ)
  (fun r name => fun _ as C τ _ => callI r name as C τ)
  (fun b => fun ts as C _ H => crOut (xBuiltin b ts as C H) .val) x
noncomputable def xCall (c : Call) (C : Ctx) (τ : Tm) (H : Heap) : R := onSome (evs c.args.toList τ) (.bad 192) fun args => xCallee c.callee c.argTypes.toList args C τ H
noncomputable def deferee : Callee → List AV → Tm → R
  | .value f => fun as τ => onSome (ev f τ) (.bad 193) fun v => v.onFn (.bad 193) fun _ _ => .dfr v as
  | _ => fun _ _ => .bad 194
noncomputable def xDefer (c : Call) (_ : Ctx) (τ : Tm) (_ : Heap) : R := onSome (evs c.args.toList τ) (.bad 194) fun args => deferee c.callee args τ
/-- A send or a receipt that does not wait. -/
noncomputable def selRecv (b cap : Nat) (buf : List AV) (el : Nat) (C : Ctx) (H : Heap) : R :=
  onSome (C.tinf el) (.bad 204) fun i => onSome (i.zv) (.bad 203) fun z =>
    onList buf (.sel (.tup [.int .i64 (.lit (-1)), .bool (.lit false), z]) H) fun v buf => H.setB b (some (.chan cap buf)) fun H => .sel (.tup [.int .i64 (.lit 0), .bool (.lit true), v]) H
noncomputable def selSend (b cap : Nat) (buf : List AV) (v : AV) (el : Nat) (C : Ctx) (H : Heap) : R :=
  onSome (C.tinf el) (.bad 204) fun i => onSome (i.zv) (.bad 203) fun _ =>
  ife (Nat.blt (lenAs buf) cap) (appK buf [v] fun buf => H.setB b (some (.chan cap buf)) fun H => .sel (.tup [.int .i64 (.lit 0), .bool (.lit false)]) H) (.sel (.tup [.int .i64 (.lit (-1)), .bool (.lit false)]) H)
noncomputable def xSelect (cases : Array SelectCase) (blocking : Bool) (C : Ctx) (τ : Tm) (H : Heap) : R :=
  ife blocking (.bad 207) (onList cases.toList (.bad 207) fun c l => onList l (onSome (ev c.chan τ) (.bad 206) fun w => w.onChan (.bad 206) fun b => onSome (getK H.tr b) (.bad 205) fun k => k.onChan (.bad 205) fun cap buf =>
    onSome c.send (selRecv b cap buf c.elem C H) fun x => onSome (ev x τ) (.bad 202) fun v => selSend b cap buf v c.elem C H) fun _ _ => .bad 207)
/-- A value alone comes of it. -/
noncomputable def only (f : Ctx → Tm → Heap → R) (C : Ctx) (τ : Tm) (H : Heap) : R := crOut (f C τ H) .val
noncomputable def exec (x : Op) : Ctx → Tm → Heap → R := Op.rec (motive := fun _ => Ctx → Tm → Heap → R)
  (fun x => only (xMove x))
  (fun x => only (xMove x))
  (fun c a b => only (xPick c a b))
  (fun t => only (xAlloc t))
  (fun t x => only (xBox t x))
  (fun t ps => only (xBuild t ps))
  (fun t n ps => only (xBuildSlice t n ps))
  (fun _ _ _ _ => fun _ _ _ => .bad 195)
  (fun t x => only (xLoad t x))
  (fun t x y => only (xStore t x y))
  (fun _ => fun _ _ _ => .bad 195)
  (fun _ => fun _ _ _ => .bad 195)
  (fun x => only (xNil x))
  (fun op t x y _ => only (xBin op t x y))
  (fun op _ x => only (xUn op x))
  (fun s d x => only (xConvert s d x))
  (fun _ _ => fun _ _ _ => .bad 195)
  (fun t x => only (xMakeIface t x))
  (fun f a b => only (xMakeFunc f a b))
  (fun t r => only (xMakeMap t r))
  (fun t x => only (xMakeChan t x))
  (fun t l c => only (xMakeSlice t l c))
  (fun t x l h m => only (xSlice t x l h m))
  (fun t x f => only (xFieldAddr t x f))
  (fun t x f => only (xField t x f))
  (fun t x i => only (xIndexAddr t x i))
  (fun t x i => only (xIndex t x i))
  (fun t x i ok => only (xLookup t x i ok))
  (fun t m k v => only (xMapUpdate t m k v))
  (fun _ _ _ => fun _ _ _ => .bad 195)
  (fun _ _ _ _ => fun _ _ _ => .bad 195)
  (fun t x => only (xRange t x))
  (fun _ _ => fun _ _ _ => .bad 195)
  (fun x => only (xEntry x))
  (fun x t u ok => only (xAssert x t u ok))
  (fun x i => only (xExtract x i))
  (fun c => xCall c)
  (fun _ => fun _ _ _ => .bad 195)
  (fun c => xDefer c)
  (fun _ => fun _ _ _ => .bad 195)
  (fun _ _ => fun _ _ _ => .bad 195)
  (fun _ _ _ => fun _ _ _ => .bad 195)
  (fun cs b => xSelect cs b) x
/-! ### Code -/
noncomputable def xrOut (x : R) : (AV → Heap → R) → (Nat → List AV → R) → (AV → List AV → R) → R := R.rec (motive := fun _ => (AV → Heap → R) → (Nat → List AV → R) → (AV → List AV → R) → R)
  (fun v H => fun kv _ _ => kv v H)
  (fun f as => fun _ kc _ => kc f as)
  (fun v as => fun _ _ kd => kd v as)
  (fun v H => fun kv _ _ => kv v H)
  (fun _ => fun _ _ _ => .bad 231)
  (fun n => fun _ _ _ => .bad n)
  (fun a => fun _ _ _ => .ask a)
  (fun _ => fun _ _ _ => .bad 231)
  (fun _ _ => fun _ _ _ => .bad 231)
  (fun _ _ => fun _ _ _ => .bad 231)
  (fun _ => fun _ _ _ => .bad 231) x
noncomputable def initT (l : List AV) : (Tm → R) → Tm → Nat → R := List.rec (motive := fun _ => (Tm → R) → Tm → Nat → R) (fun κ τ _ => κ τ) (fun v _ ih κ τ i => putA τ (some v) i fun τ => ih κ τ (Nat.succ i)) l
noncomputable def resultK (C : Ctx) (s : St) (r : ResultVar) (κ : AV → R) : R := match r with
  | .tmp t => onSome (getA s.τ t) (.bad 196) κ
  | .cell a t => onSome (getA s.τ a) (.bad 196) fun v => v.onPtr (.bad 196) fun b o => loadC C s.H t b o (.bad 196) κ
noncomputable def resultsK (C : Ctx) (s : St) (κ : List AV → R) : List ResultVar → List AV → R
  | [], acc => κ acc
  | r :: l, acc => resultK C s r fun v => resultsK C s κ l (List.append acc [v])
noncomputable def silentAll (C : Ctx) : List (AV × List AV) → Bool
  | [] => true
  | p :: l => p.1.onFn false fun f _ => onList p.2 (ife (C.silent.contains f) (silentAll C l) false) fun _ _ => false
noncomputable def retVal (H : Heap) (vs : List AV) : R := onList vs (.val (.tup vs) H) fun v l => onList l (.val v H) fun _ _ => .val (.tup vs) H
noncomputable def finish (C : Ctx) (fn : Func) (s : St) : R := ife (silentAll C s.ds) (resultsK C s (retVal s.H) fn.results.toList []) (.bad 197)
abbrev Run := Code → St → R
noncomputable def findFact (f : Nat) (args : List AV) : List Fact → Option AV
  | [] => none
  | x :: l => ife (Nat.beq x.f f) (ife (beqAVs x.args args) (some x.res) (findFact f args l)) (findFact f args l)
noncomputable def outCR (x : R) : Ctx → Func → R := R.rec (motive := fun _ => Ctx → Func → R)
  (fun _ _ => fun _ _ => .bad 198)
  (fun _ _ => fun _ _ => .bad 198)
  (fun _ _ => fun _ _ => .bad 198)
  (fun _ _ => fun _ _ => .bad 198)
  (fun _ => fun _ _ => .bad 198)
  (fun n => fun _ _ => .bad n)
  (fun a => fun _ _ => .ask a)
  (fun s => fun C fn => finish C fn s)
  (fun _ _ => fun _ _ => .bad 198)
  (fun _ _ => fun _ _ => .bad 198)
  (fun s => fun C fn => finish C fn s) x
noncomputable def callBody (C : Ctx) (r : Run) (fn : Func) (args : List AV) (H : Heap) : R :=
  onSome fn.body (ife (fn.name == "internal/abi.NoEscape") (onList args (.bad 199) fun v l => onList l (.val v H) fun _ _ => .bad 199) (.bad 200))
    fun c => ife (Nat.ble (lenAs args) fn.ntmps) (initT args (fun τ => outCR (r c ⟨τ, H, []⟩) C fn) .e 0) (.bad 200)
noncomputable def callF (C : Ctx) (r : Run) (f : Nat) (args : List AV) (H : Heap) : R :=
  onSome (findFact f args C.facts) (onSome (C.fn.get f) (.bad 201) fun o => onSome o (.bad 201) fun fn => callBody C r fn args H) fun v => .val v H
noncomputable def putT (dst : Option Nat) (v : AV) (τ : Tm) (κ : Tm → R) : R := onSome dst (κ τ) fun d => putA τ (some v) d κ
/-- Is the operation wanted? none: it cannot be told. -/
noncomputable def wantedA (ops : List Oper) (o : Oper) (C : Ctx) (τ : Tm) : Option Bool :=
  onSome o.guard (some true) fun g => onSome (nth ops g.1) none fun q => onSome q.dst none fun d => onSome (getA τ d) none fun v =>
    v.onBool (v.onTup none fun l => onList l (some false) fun _ _ => none) fun s => onSome (decB C s) none fun b => some (beqB b g.2)
noncomputable def stepO (o : Oper) (C : Ctx) (r : Run) (all : List Oper) (s : St) (ih : St → R) : R :=
  onSome (wantedA all o C s.τ) (.bad 208) fun w => ife w
    (xrOut (exec o.op C s.τ s.H) (fun v H => putT o.dst v s.τ fun τ => ih ⟨τ, H, s.ds⟩)
      (fun f args => crOut (callF C r f args s.H) fun v H => putT o.dst v s.τ fun τ => ih ⟨τ, H, s.ds⟩)
      (fun v args => putT o.dst .undef s.τ fun τ => ih ⟨τ, s.H, (v, args) :: s.ds⟩))
    (putT o.dst .undef s.τ fun τ => ih ⟨τ, s.H, s.ds⟩)
noncomputable def opsA (l : List Oper) : Ctx → Run → List Oper → St → R := List.rec (motive := fun _ => Ctx → Run → List Oper → St → R) (fun _ _ _ s => .norm s) (fun o _ ih C r all s => stepO o C r all s (ih C r all)) l

/-! ### A region that draws its order: gone through in the text's order; what else may be is held to be the same -/
noncomputable def predsOf : List Edge → List Nat
  | [] => []
  | e :: l => ife (Region.binds .any e) (e.on :: predsOf l) (predsOf l)
noncomputable def maskOf (ms : Tr Nat) : Nat → List Nat → Nat
  | m, [] => m
  | m, i :: l => maskOf ms (Nat.lor (Nat.lor m (Nat.pow 2 i)) ((ms.get i).getD 0)) l
noncomputable def bit (m i : Nat) : Bool := Nat.beq (Nat.mod (Nat.div m (Nat.pow 2 i)) 2) 1
noncomputable def allLt (j : Nat) : List Nat → Bool
  | [] => true
  | i :: l => Nat.blt i j && allLt j l
noncomputable def masksA (ms : Tr Nat) : Nat → List Oper → Option (Tr Nat)
  | _, [] => some ms
  | j, o :: l => ife (allLt j (predsOf o.after.toList)) (masksA (ms.set j (some (maskOf ms 0 (predsOf o.after.toList)))) (Nat.succ j) l) none
noncomputable def writersA (W : Tr Nat) : Nat → List Oper → Option (Tr Nat)
  | _, [] => some W
  | j, o :: l => onSome o.dst (writersA W (Nat.succ j) l) fun d => onSome (W.get d) (writersA (W.set d (some j)) (Nat.succ j) l) fun _ => none
noncomputable def looksOk (ms W : Tr Nat) (r : Nat) : List Nat → Bool
  | [] => true
  | t :: l => (onSome (W.get t) true fun w => ife (Nat.beq w r) true (ife (bit ((ms.get r).getD 0) w) true (bit ((ms.get w).getD 0) r))) && looksOk ms W r l
noncomputable def looksAll (ms W : Tr Nat) (ops : Array Oper) : Nat → List Oper → Bool
  | _, [] => true
  | j, o :: l => looksOk ms W j (o.looksAt ops) && looksAll ms W ops (Nat.succ j) l
/-- The masks of what waits for what, if each slot is written once and read in a certain order. -/
noncomputable def planA (ops : Array Oper) : Option (Tr Nat) := onSome (masksA .e 0 ops.toList) none fun ms => onSome (writersA .e 0 ops.toList) none fun W => ife (looksAll ms W ops 0 ops.toList) (some ms) none
structure RdE where
  j : Nat
  op : Op
  τ : Tm
  v : AV
structure PendE where
  j : Nat
  id : Nat
  k : Blk
structure DS where
  τ : Tm
  H : Heap
  hist : List (Nat × Heap)
  rd : List RdE
  pend : List PendE
noncomputable def isReader : Op → Bool
  | .load .. | .lookup .. | .binOp .. | .convert .. | .entry .. | .slice .. => true
  | .call c => match c.callee with
    | .builtin .len => true
    | .builtin .cap => true
    | _ => false
  | _ => false
/-- Is it the same there? -/
noncomputable def sameX (C : Ctx) (op : Op) (τ : Tm) (v : AV) (H : Heap) : Bool := match exec op C τ H with
  | .val v' _ => beqAV v v'
  | _ => false
noncomputable def histOk (C : Ctx) (op : Op) (τ : Tm) (v : AV) (b : Nat) : List (Nat × Heap) → Bool
  | [] => true
  | (e, H) :: l => ife (bit b e) true (sameX C op τ v H) && histOk C op τ v b l
noncomputable def rdOk (C : Ctx) (b : Nat) (H : Heap) : List RdE → Bool
  | [] => true
  | x :: l => ife (bit b x.j) true (sameX C x.op x.τ x.v H) && rdOk C b H l
/-- Those that have come for certain laid in; the others. -/
noncomputable def absorb (b : Nat) (κ : Heap → List PendE → R) : Heap → List PendE → List PendE → R
  | H, keep, [] => κ H keep
  | H, keep, p :: l => ife (bit b p.j) (H.setB p.id (some p.k) fun H => absorb b κ H keep l) (absorb b κ H (p :: keep) l)
noncomputable def absorbAll (κ : Heap → R) : Heap → List PendE → R
  | H, [] => κ H
  | H, p :: l => H.setB p.id (some p.k) fun H => absorbAll κ H l
noncomputable def lastIn (b : Nat) : List (Nat × Heap) → Bool
  | [] => true
  | (e, _) :: _ => bit b e
noncomputable def putD (dst : Option Nat) (v : AV) (D : DS) (κ : DS → R) : R := putT dst v D.τ fun τ => κ ⟨τ, D.H, D.hist, D.rd, D.pend⟩
noncomputable def isE {α : Type} : Tr α → Bool
  | .e => true
  | _ => false
noncomputable def effA (C : Ctx) (r : Run) (op : Op) (τ : Tm) (H : Heap) : R := match exec op C τ H with
  | .val v H => .val v H
  | .call f args => callF C r f args H
  | .bad n => .bad n
  | .ask a => .ask a
  | _ => .bad 209
noncomputable def drNext (C : Ctx) (o : Oper) (j b : Nat) (D : DS) (keep : List PendE) (v : AV) (H : Heap) (κ : DS → R) : R :=
  ife (rdOk C b H D.rd) (putD o.dst v ⟨D.τ, H, (j, D.H) :: D.hist, D.rd, keep⟩ κ) (.bad 214)
noncomputable def drEff (C : Ctx) (r : Run) (o : Oper) (j b : Nat) (D : DS) (κ : DS → R) : R :=
  ife (lastIn b D.hist) (absorb b (fun Hc keep => crOut (effA C r o.op D.τ Hc) fun v H' => drNext C o j b D keep v ⟨H'.tr, H'.ro, H'.next, H'.lim, D.H.it⟩ κ) D.H [] D.pend) (.bad 215)
noncomputable def drRead (C : Ctx) (o : Oper) (j b : Nat) (D : DS) (κ : DS → R) : R :=
  absorb b (fun Hc _ => match exec o.op C D.τ Hc with
    | .val v _ => ife (histOk C o.op D.τ v b D.hist) (putD o.dst v ⟨D.τ, D.H, D.hist, ⟨j, o.op, D.τ, v⟩ :: D.rd, D.pend⟩ κ) (.bad 212)
    | .ask a => .ask a
    | .bad n => .bad n
    | _ => .bad 213) D.H [] D.pend
noncomputable def drPure (o : Oper) (j id : Nat) (D : DS) (v : AV) (H1 : Heap) (κ : DS → R) : R :=
  ife (Nat.ble H1.next (Nat.succ id)) (onSome (getK H1.tr id) (ife (isE H1.tr) (putD o.dst v D κ) (.bad 211)) fun k => putD o.dst v ⟨D.τ, D.H, D.hist, D.rd, ⟨j, id, k⟩ :: D.pend⟩ κ) (.bad 211)
noncomputable def drOp (C : Ctx) (r : Run) (all : List Oper) (ms : Tr Nat) (n0 : Nat) (o : Oper) (j : Nat) (D : DS) (κ : DS → R) : R :=
  onSome (wantedA all o C D.τ) (.bad 210) fun w => ife w
    (match exec o.op C D.τ ⟨.e, .e, Nat.add n0 j, Nat.succ (Nat.add n0 j), none⟩ with
      | .val v H1 => drPure o j (Nat.add n0 j) D v H1 κ
      | .ask a => .ask a
      | _ => ife (isReader o.op) (drRead C o j ((ms.get j).getD 0) D κ) (drEff C r o j ((ms.get j).getD 0) D κ))
    (putD o.dst .undef D κ)
noncomputable def drawnGo (C : Ctx) (r : Run) (all : List Oper) (ms : Tr Nat) (n0 : Nat) (ds : List (AV × List AV)) (l : List Oper) : Nat → DS → R :=
  List.rec (motive := fun _ => Nat → DS → R) (fun _ D => absorbAll (fun H => .norm ⟨D.τ, H, ds⟩) D.H D.pend) (fun o _ ih j D => drOp C r all ms n0 o j D (ih (Nat.succ j))) l
noncomputable def itOk (H : Heap) : Bool := onSome H.it true fun it => onSome it.e false fun _ => true
noncomputable def drawnA (C : Ctx) (r : Run) (ops : Array Oper) (s : St) : R :=
  onSome (planA ops) (.bad 217) fun ms => forceN (Nat.add s.H.next (lenL ops.toList)) fun nx => ife (Nat.blt nx s.H.lim) (ife (itOk s.H)
    (drawnGo C r ops.toList ms s.H.next s.ds ops.toList 0 ⟨s.τ, ⟨s.H.tr, s.H.ro, nx, s.H.lim, s.H.it⟩, [], [], []⟩) (.bad 216)) (.bad 216)

/-! ### A range over a map, where each round ends as it began -/
structure ML where
  it : Nat
  d1 : Nat
  d2 : Nat
  x : Nat
  rest : Code
noncomputable def mapLoop : Code → Option ML
  | .seq (.region _ ops false) (.seq (.cond (.tmp c) .skip (.exit x)) rest) => match ops.toList with
    | [o1, o2] => match o1.op, o1.dst, o1.guard, o2.op, o2.dst, o2.guard with
      | .next (.tmp it) false, some d1, none, .extract (.tmp d1') 0, some d2, none => cond (Nat.beq d1 d1' && (Nat.beq d2 c && (!(Nat.beq d1 it) && (!(Nat.beq d2 it) && !(Nat.beq d1 d2))))) (some ⟨it, d1, d2, x, rest⟩) none
      | _, _, _, _, _, _ => none
    | _ => none
  | _ => none
noncomputable def subT : Tr AV → Tr AV → Bool
  | .e, _ => true
  | .n v l r, t => match t with
    | .e => (match v with
      | none => true
      | some _ => false) && (subT l .e && subT r .e)
    | .n v' l' r' => (match v, v' with
      | none, _ => true
      | some a, some b => beqAV a b
      | some _, none => false) && (subT l l' && subT r r')
noncomputable def mapRounds (r : Run) (L : ML) (s : St) (b m : Nat) (κ : R) : List (AV × AV) → R
  | [] => κ
  | p :: l => putA s.τ (some (.tup [.bool (.lit true), p.1, p.2])) L.d1 fun τ => putA τ (some (.bool (.lit true))) L.d2 fun τ =>
      (r L.rest ⟨τ, ⟨.e, s.H.tr, s.H.next, s.H.lim, some ⟨b, m, some p⟩⟩, []⟩).onNorm (.bad 219) fun s' =>
        ife (subT s.τ s'.τ) (onList s'.ds (mapRounds r L s b m κ l) fun _ _ => .bad 218) (.bad 218)
noncomputable def mapEnd (L : ML) (s : St) : R := putA s.τ (some (.tup [.bool (.lit false)])) L.d1 fun τ => putA τ (some (.bool (.lit false))) L.d2 fun τ => .exit L.x ⟨τ, ⟨s.H.tr, s.H.ro, s.H.next, s.H.lim, none⟩, s.ds⟩
noncomputable def mapLoopA (r : Run) (L : ML) (s : St) : R :=
  onSome (getA s.τ L.it) (.bad 223) fun v => v.onPtr (.bad 223) fun b o => ife (Nat.beq o 0) (onSome s.H.it (.bad 222) fun it => ife (Nat.beq it.b b) (onSome it.e (onSome (getK s.H.tr it.m) (.bad 221) fun q => q.onMap (.bad 221) fun es =>
    ife (isE s.H.ro) (onList s.ds (mapRounds r L s b it.m (mapEnd L s) es) fun _ _ => .bad 234) (.bad 220)) fun _ => .bad 222) (.bad 222)) (.bad 223)

/-! ### Code -/
noncomputable def loopN (r : Run) (c : Code) (n : Nat) : St → R := Nat.rec (motive := fun _ => St → R) (fun _ => .bad 224) (fun _ ih s => (r c s).onNorm (r c s) ih) n
noncomputable def scopeN (r : Run) (body : Code) (n : Nat) : Code → St → R := Nat.rec (motive := fun _ => Code → St → R) (fun _ _ => .bad 225) (fun _ ih c s => (r c s).onGoto (r c s) fun l s' => onSome (findLabel body l) (.goto l s') fun rest => ih rest s') n
noncomputable def sCond (c : Operand) (a b : Code) (C : Ctx) (r : Run) (s : St) : R :=
  onSome (ev c s.τ) (.bad 226) fun v => v.onBool (.bad 226) fun q => onSome (decB C q) (.ask (.bool q)) fun t => ife t (r a s) (r b s)
noncomputable def sSeq (a b : Code) (r : Run) (s : St) : R := (r a s).onNorm (r a s) (r b)
noncomputable def sBlock (i : Nat) (b : Code) (r : Run) (s : St) : R := (r b s).onExit (r b s) fun j s' => ife (Nat.beq j i) (.norm s') (.exit j s')
noncomputable def sLoop (b : Code) (r : Run) (s : St) : R := onSome (mapLoop b) (loopN r b 100000 s) fun L => mapLoopA r L s
noncomputable def sRegion (ops : Array Oper) (draw : Bool) (C : Ctx) (r : Run) (s : St) : R := ife draw (drawnA C r ops s) (opsA ops.toList C r ops.toList s)
noncomputable def stepA (x : Code) : Ctx → Run → St → R := Code.rec (motive := fun _ => Ctx → Run → St → R)
  (fun _ _ s => .norm s)
  (fun _ ops draw => sRegion ops draw)
  (fun a b _ _ => fun _ => sSeq a b)
  (fun c a b _ _ => sCond c a b)
  (fun i b _ => fun _ => sBlock i b)
  (fun b _ => fun _ => sLoop b)
  (fun _ _ _ _ _ _ => fun _ _ _ => .bad 227)
  (fun i => fun _ _ s => .exit i s)
  (fun b _ => fun _ r s => scopeN r b 100000 b s)
  (fun _ => fun _ _ s => .norm s)
  (fun l => fun _ _ s => .goto l s)
  (fun _ _ s => .ret s)
  (fun _ => fun _ _ _ => .bad 227) x
noncomputable def runA (C : Ctx) (n : Nat) : Run := Nat.rec (motive := fun _ => Run) (fun _ _ => .bad 229) (fun _ ih c s => stepA c C ih s) n
/-- A call. -/
noncomputable def callA (C : Ctx) (n f : Nat) (args : List AV) (H : Heap) : R := callF C (runA C n) f args H
noncomputable def Heap.void : Heap := ⟨.e, .e, 0, 1152921504606846976, .none⟩
end Go.Proofs.YtjebljnifeoiaaaGreat.Vm
