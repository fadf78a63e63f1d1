/- The machine's small parts: what each does. No condition. -/
import Derived.Test.YtjebljnifeoiaaaGreatVm
namespace Go.Proofs.YtjebljnifeoiaaaGreat.Vm
open Go
set_option linter.unusedVariables false
set_option linter.unusedSimpArgs false
@[simp] theorem ife_true {β : Type} (x y : β) : ife true x y = x := rfl
@[simp] theorem ife_false {β : Type} (x y : β) : ife false x y = y := rfl
theorem ife_iff {β : Type} {b : Bool} {x y r : β} (h : y ≠ r) : ife b x y = r ↔ b = true ∧ x = r := by
  cases b
  · exact ⟨fun e => absurd e h, fun e => by simp at e⟩
  · simp
theorem ife_no {β : Type} {b : Bool} {x y r : β} (h : x ≠ r) : ife b x y = r ↔ b = false ∧ y = r := by
  cases b
  · simp
  · exact ⟨fun e => absurd e h, fun e => by simp at e⟩
theorem ife_eq {β : Type} (b : Bool) (x y : β) : ife b x y = if b = true then x else y := by cases b <;> rfl
@[simp] theorem onSome_some {α β : Type} (a : α) (no : β) (κ : α → β) : onSome (some a) no κ = κ a := rfl
@[simp] theorem onSome_none {α β : Type} (no : β) (κ : α → β) : onSome none no κ = no := rfl
theorem onSome_iff {α β : Type} {o : Option α} {no : β} {κ : α → β} {r : β} (h : no ≠ r) : onSome o no κ = r ↔ ∃ a, o = some a ∧ κ a = r := by
  cases o
  · exact ⟨fun e => absurd e h, fun ⟨a, e, _⟩ => by simp at e⟩
  · simp
@[simp] theorem onList_nil {α β : Type} (no : β) (κ : α → List α → β) : onList [] no κ = no := rfl
@[simp] theorem onList_cons {α β : Type} (a : α) (l : List α) (no : β) (κ : α → List α → β) : onList (a :: l) no κ = κ a l := rfl
theorem onList_iff {α β : Type} {l : List α} {no : β} {κ : α → List α → β} {r : β} (h : no ≠ r) : onList l no κ = r ↔ ∃ a t, l = a :: t ∧ κ a t = r := by
  cases l
  · exact ⟨fun e => absurd e h, fun ⟨a, t, e, _⟩ => by simp at e⟩
  · exact ⟨fun e => ⟨_, _, rfl, e⟩, fun ⟨_, _, e0, e⟩ => by cases e0; exact e⟩
theorem onList_no {α β : Type} {l : List α} {no : β} {κ : α → List α → β} {r : β} (h : ∀ a t, κ a t ≠ r) : onList l no κ = r ↔ l = [] ∧ no = r := by
  cases l
  · simp
  · simp [h]
theorem AV.onInt_iff {β : Type} {v : AV} {no : β} {κ : IntKind → SI → β} {r : β} (h : no ≠ r) : AV.onInt v no κ = r ↔ ∃ x0 x1, v = .int x0 x1 ∧ κ x0 x1 = r := by cases v <;> first | exact ⟨fun e => absurd e h, fun e => by simp at e⟩ | exact ⟨fun e => ⟨_, _, rfl, e⟩, fun ⟨_, _, e0, e⟩ => by cases e0; exact e⟩
theorem AV.onInt_eq {β : Type} (v : AV) (no : β) (κ : IntKind → SI → β) : AV.onInt v no κ = match v with | .int x0 x1 => κ x0 x1 | _ => no := by cases v <;> rfl
theorem AV.onBool_iff {β : Type} {v : AV} {no : β} {κ : SB → β} {r : β} (h : no ≠ r) : AV.onBool v no κ = r ↔ ∃ x0, v = .bool x0 ∧ κ x0 = r := by cases v <;> first | exact ⟨fun e => absurd e h, fun e => by simp at e⟩ | exact ⟨fun e => ⟨_, rfl, e⟩, fun ⟨_, e0, e⟩ => by cases e0; exact e⟩
theorem AV.onBool_eq {β : Type} (v : AV) (no : β) (κ : SB → β) : AV.onBool v no κ = match v with | .bool x0 => κ x0 | _ => no := by cases v <;> rfl
theorem AV.onStr_iff {β : Type} {v : AV} {no : β} {κ : List Nat → β} {r : β} (h : no ≠ r) : AV.onStr v no κ = r ↔ ∃ x0, v = .str x0 ∧ κ x0 = r := by cases v <;> first | exact ⟨fun e => absurd e h, fun e => by simp at e⟩ | exact ⟨fun e => ⟨_, rfl, e⟩, fun ⟨_, e0, e⟩ => by cases e0; exact e⟩
theorem AV.onStr_eq {β : Type} (v : AV) (no : β) (κ : List Nat → β) : AV.onStr v no κ = match v with | .str x0 => κ x0 | _ => no := by cases v <;> rfl
theorem AV.onPtr_iff {β : Type} {v : AV} {no : β} {κ : Nat → Nat → β} {r : β} (h : no ≠ r) : AV.onPtr v no κ = r ↔ ∃ x0 x1, v = .ptr x0 x1 ∧ κ x0 x1 = r := by cases v <;> first | exact ⟨fun e => absurd e h, fun e => by simp at e⟩ | exact ⟨fun e => ⟨_, _, rfl, e⟩, fun ⟨_, _, e0, e⟩ => by cases e0; exact e⟩
theorem AV.onPtr_eq {β : Type} (v : AV) (no : β) (κ : Nat → Nat → β) : AV.onPtr v no κ = match v with | .ptr x0 x1 => κ x0 x1 | _ => no := by cases v <;> rfl
theorem AV.onNil_iff {β : Type} {v : AV} {no : β} {κ : β} {r : β} (h : no ≠ r) : AV.onNil v no κ = r ↔ v = .nil  ∧ κ  = r := by cases v <;> first | exact ⟨fun e => absurd e h, fun e => by simp at e⟩ | exact ⟨fun e => ⟨rfl, e⟩, fun ⟨e0, e⟩ => by cases e0; exact e⟩
theorem AV.onNil_eq {β : Type} (v : AV) (no : β) (κ : β) : AV.onNil v no κ = match v with | .nil  => κ  | _ => no := by cases v <;> rfl
theorem AV.onSlc_iff {β : Type} {v : AV} {no : β} {κ : Nat → Nat → Nat → Nat → Bool → Nat → β} {r : β} (h : no ≠ r) : AV.onSlc v no κ = r ↔ ∃ x0 x1 x2 x3 x4 x5, v = .slc x0 x1 x2 x3 x4 x5 ∧ κ x0 x1 x2 x3 x4 x5 = r := by cases v <;> first | exact ⟨fun e => absurd e h, fun e => by simp at e⟩ | exact ⟨fun e => ⟨_, _, _, _, _, _, rfl, e⟩, fun ⟨_, _, _, _, _, _, e0, e⟩ => by cases e0; exact e⟩
theorem AV.onSlc_eq {β : Type} (v : AV) (no : β) (κ : Nat → Nat → Nat → Nat → Bool → Nat → β) : AV.onSlc v no κ = match v with | .slc x0 x1 x2 x3 x4 x5 => κ x0 x1 x2 x3 x4 x5 | _ => no := by cases v <;> rfl
theorem AV.onEtl_iff {β : Type} {v : AV} {no : β} {κ : Nat → Nat → Nat → Nat → β} {r : β} (h : no ≠ r) : AV.onEtl v no κ = r ↔ ∃ x0 x1 x2 x3, v = .etl x0 x1 x2 x3 ∧ κ x0 x1 x2 x3 = r := by cases v <;> first | exact ⟨fun e => absurd e h, fun e => by simp at e⟩ | exact ⟨fun e => ⟨_, _, _, _, rfl, e⟩, fun ⟨_, _, _, _, e0, e⟩ => by cases e0; exact e⟩
theorem AV.onEtl_eq {β : Type} (v : AV) (no : β) (κ : Nat → Nat → Nat → Nat → β) : AV.onEtl v no κ = match v with | .etl x0 x1 x2 x3 => κ x0 x1 x2 x3 | _ => no := by cases v <;> rfl
theorem AV.onNils_iff {β : Type} {v : AV} {no : β} {κ : β} {r : β} (h : no ≠ r) : AV.onNils v no κ = r ↔ v = .nils  ∧ κ  = r := by cases v <;> first | exact ⟨fun e => absurd e h, fun e => by simp at e⟩ | exact ⟨fun e => ⟨rfl, e⟩, fun ⟨e0, e⟩ => by cases e0; exact e⟩
theorem AV.onNils_eq {β : Type} (v : AV) (no : β) (κ : β) : AV.onNils v no κ = match v with | .nils  => κ  | _ => no := by cases v <;> rfl
theorem AV.onMap_iff {β : Type} {v : AV} {no : β} {κ : Nat → β} {r : β} (h : no ≠ r) : AV.onMap v no κ = r ↔ ∃ x0, v = .map x0 ∧ κ x0 = r := by cases v <;> first | exact ⟨fun e => absurd e h, fun e => by simp at e⟩ | exact ⟨fun e => ⟨_, rfl, e⟩, fun ⟨_, e0, e⟩ => by cases e0; exact e⟩
theorem AV.onMap_eq {β : Type} (v : AV) (no : β) (κ : Nat → β) : AV.onMap v no κ = match v with | .map x0 => κ x0 | _ => no := by cases v <;> rfl
theorem AV.onNilm_iff {β : Type} {v : AV} {no : β} {κ : β} {r : β} (h : no ≠ r) : AV.onNilm v no κ = r ↔ v = .nilm  ∧ κ  = r := by cases v <;> first | exact ⟨fun e => absurd e h, fun e => by simp at e⟩ | exact ⟨fun e => ⟨rfl, e⟩, fun ⟨e0, e⟩ => by cases e0; exact e⟩
theorem AV.onNilm_eq {β : Type} (v : AV) (no : β) (κ : β) : AV.onNilm v no κ = match v with | .nilm  => κ  | _ => no := by cases v <;> rfl
theorem AV.onChan_iff {β : Type} {v : AV} {no : β} {κ : Nat → β} {r : β} (h : no ≠ r) : AV.onChan v no κ = r ↔ ∃ x0, v = .chan x0 ∧ κ x0 = r := by cases v <;> first | exact ⟨fun e => absurd e h, fun e => by simp at e⟩ | exact ⟨fun e => ⟨_, rfl, e⟩, fun ⟨_, e0, e⟩ => by cases e0; exact e⟩
theorem AV.onChan_eq {β : Type} (v : AV) (no : β) (κ : Nat → β) : AV.onChan v no κ = match v with | .chan x0 => κ x0 | _ => no := by cases v <;> rfl
theorem AV.onNilc_iff {β : Type} {v : AV} {no : β} {κ : β} {r : β} (h : no ≠ r) : AV.onNilc v no κ = r ↔ v = .nilc  ∧ κ  = r := by cases v <;> first | exact ⟨fun e => absurd e h, fun e => by simp at e⟩ | exact ⟨fun e => ⟨rfl, e⟩, fun ⟨e0, e⟩ => by cases e0; exact e⟩
theorem AV.onNilc_eq {β : Type} (v : AV) (no : β) (κ : β) : AV.onNilc v no κ = match v with | .nilc  => κ  | _ => no := by cases v <;> rfl
theorem AV.onFn_iff {β : Type} {v : AV} {no : β} {κ : Nat → List AV → β} {r : β} (h : no ≠ r) : AV.onFn v no κ = r ↔ ∃ x0 x1, v = .fn x0 x1 ∧ κ x0 x1 = r := by cases v <;> first | exact ⟨fun e => absurd e h, fun e => by simp at e⟩ | exact ⟨fun e => ⟨_, _, rfl, e⟩, fun ⟨_, _, e0, e⟩ => by cases e0; exact e⟩
theorem AV.onFn_eq {β : Type} (v : AV) (no : β) (κ : Nat → List AV → β) : AV.onFn v no κ = match v with | .fn x0 x1 => κ x0 x1 | _ => no := by cases v <;> rfl
theorem AV.onNilf_iff {β : Type} {v : AV} {no : β} {κ : β} {r : β} (h : no ≠ r) : AV.onNilf v no κ = r ↔ v = .nilf  ∧ κ  = r := by cases v <;> first | exact ⟨fun e => absurd e h, fun e => by simp at e⟩ | exact ⟨fun e => ⟨rfl, e⟩, fun ⟨e0, e⟩ => by cases e0; exact e⟩
theorem AV.onNilf_eq {β : Type} (v : AV) (no : β) (κ : β) : AV.onNilf v no κ = match v with | .nilf  => κ  | _ => no := by cases v <;> rfl
theorem AV.onIface_iff {β : Type} {v : AV} {no : β} {κ : Nat → AV → β} {r : β} (h : no ≠ r) : AV.onIface v no κ = r ↔ ∃ x0 x1, v = .iface x0 x1 ∧ κ x0 x1 = r := by cases v <;> first | exact ⟨fun e => absurd e h, fun e => by simp at e⟩ | exact ⟨fun e => ⟨_, _, rfl, e⟩, fun ⟨_, _, e0, e⟩ => by cases e0; exact e⟩
theorem AV.onIface_eq {β : Type} (v : AV) (no : β) (κ : Nat → AV → β) : AV.onIface v no κ = match v with | .iface x0 x1 => κ x0 x1 | _ => no := by cases v <;> rfl
theorem AV.onNili_iff {β : Type} {v : AV} {no : β} {κ : β} {r : β} (h : no ≠ r) : AV.onNili v no κ = r ↔ v = .nili  ∧ κ  = r := by cases v <;> first | exact ⟨fun e => absurd e h, fun e => by simp at e⟩ | exact ⟨fun e => ⟨rfl, e⟩, fun ⟨e0, e⟩ => by cases e0; exact e⟩
theorem AV.onNili_eq {β : Type} (v : AV) (no : β) (κ : β) : AV.onNili v no κ = match v with | .nili  => κ  | _ => no := by cases v <;> rfl
theorem AV.onAgg_iff {β : Type} {v : AV} {no : β} {κ : List AV → β} {r : β} (h : no ≠ r) : AV.onAgg v no κ = r ↔ ∃ x0, v = .agg x0 ∧ κ x0 = r := by cases v <;> first | exact ⟨fun e => absurd e h, fun e => by simp at e⟩ | exact ⟨fun e => ⟨_, rfl, e⟩, fun ⟨_, e0, e⟩ => by cases e0; exact e⟩
theorem AV.onAgg_eq {β : Type} (v : AV) (no : β) (κ : List AV → β) : AV.onAgg v no κ = match v with | .agg x0 => κ x0 | _ => no := by cases v <;> rfl
theorem AV.onTup_iff {β : Type} {v : AV} {no : β} {κ : List AV → β} {r : β} (h : no ≠ r) : AV.onTup v no κ = r ↔ ∃ x0, v = .tup x0 ∧ κ x0 = r := by cases v <;> first | exact ⟨fun e => absurd e h, fun e => by simp at e⟩ | exact ⟨fun e => ⟨_, rfl, e⟩, fun ⟨_, e0, e⟩ => by cases e0; exact e⟩
theorem AV.onTup_eq {β : Type} (v : AV) (no : β) (κ : List AV → β) : AV.onTup v no κ = match v with | .tup x0 => κ x0 | _ => no := by cases v <;> rfl
theorem AV.onFsl_iff {β : Type} {v : AV} {no : β} {κ : Nat → β} {r : β} (h : no ≠ r) : AV.onFsl v no κ = r ↔ ∃ x0, v = .fsl x0 ∧ κ x0 = r := by cases v <;> first | exact ⟨fun e => absurd e h, fun e => by simp at e⟩ | exact ⟨fun e => ⟨_, rfl, e⟩, fun ⟨_, e0, e⟩ => by cases e0; exact e⟩
theorem AV.onFsl_eq {β : Type} (v : AV) (no : β) (κ : Nat → β) : AV.onFsl v no κ = match v with | .fsl x0 => κ x0 | _ => no := by cases v <;> rfl
theorem AV.onFpt_iff {β : Type} {v : AV} {no : β} {κ : Nat → SI → Nat → β} {r : β} (h : no ≠ r) : AV.onFpt v no κ = r ↔ ∃ x0 x1 x2, v = .fpt x0 x1 x2 ∧ κ x0 x1 x2 = r := by cases v <;> first | exact ⟨fun e => absurd e h, fun e => by simp at e⟩ | exact ⟨fun e => ⟨_, _, _, rfl, e⟩, fun ⟨_, _, _, e0, e⟩ => by cases e0; exact e⟩
theorem AV.onFpt_eq {β : Type} (v : AV) (no : β) (κ : Nat → SI → Nat → β) : AV.onFpt v no κ = match v with | .fpt x0 x1 x2 => κ x0 x1 x2 | _ => no := by cases v <;> rfl

theorem Blk.onCells_iff {β : Type} {v : Blk} {no : β} {κ : Nat → Bool → BT → β} {r : β} (h : no ≠ r) : Blk.onCells v no κ = r ↔ ∃ x0 x1 x2, v = .cells x0 x1 x2 ∧ κ x0 x1 x2 = r := by cases v <;> first | exact ⟨fun e => absurd e h, fun e => by simp at e⟩ | exact ⟨fun e => ⟨_, _, _, rfl, e⟩, fun ⟨_, _, _, e0, e⟩ => by cases e0; exact e⟩
theorem Blk.onCells_eq {β : Type} (v : Blk) (no : β) (κ : Nat → Bool → BT → β) : Blk.onCells v no κ = match v with | .cells x0 x1 x2 => κ x0 x1 x2 | _ => no := by cases v <;> rfl
theorem Blk.onMap_iff {β : Type} {v : Blk} {no : β} {κ : List (AV × AV) → β} {r : β} (h : no ≠ r) : Blk.onMap v no κ = r ↔ ∃ x0, v = .map x0 ∧ κ x0 = r := by cases v <;> first | exact ⟨fun e => absurd e h, fun e => by simp at e⟩ | exact ⟨fun e => ⟨_, rfl, e⟩, fun ⟨_, e0, e⟩ => by cases e0; exact e⟩
theorem Blk.onMap_eq {β : Type} (v : Blk) (no : β) (κ : List (AV × AV) → β) : Blk.onMap v no κ = match v with | .map x0 => κ x0 | _ => no := by cases v <;> rfl
theorem Blk.onChan_iff {β : Type} {v : Blk} {no : β} {κ : Nat → List AV → β} {r : β} (h : no ≠ r) : Blk.onChan v no κ = r ↔ ∃ x0 x1, v = .chan x0 x1 ∧ κ x0 x1 = r := by cases v <;> first | exact ⟨fun e => absurd e h, fun e => by simp at e⟩ | exact ⟨fun e => ⟨_, _, rfl, e⟩, fun ⟨_, _, e0, e⟩ => by cases e0; exact e⟩
theorem Blk.onChan_eq {β : Type} (v : Blk) (no : β) (κ : Nat → List AV → β) : Blk.onChan v no κ = match v with | .chan x0 x1 => κ x0 x1 | _ => no := by cases v <;> rfl

theorem SI.onLit_iff {β : Type} {v : SI} {no : β} {κ : Int → β} {r : β} (h : no ≠ r) : SI.onLit v no κ = r ↔ ∃ x0, v = .lit x0 ∧ κ x0 = r := by cases v <;> first | exact ⟨fun e => absurd e h, fun e => by simp at e⟩ | exact ⟨fun e => ⟨_, rfl, e⟩, fun ⟨_, e0, e⟩ => by cases e0; exact e⟩
theorem SI.onLit_eq {β : Type} (v : SI) (no : β) (κ : Int → β) : SI.onLit v no κ = match v with | .lit x0 => κ x0 | _ => no := by cases v <;> rfl

theorem SB.onLit_iff {β : Type} {v : SB} {no : β} {κ : Bool → β} {r : β} (h : no ≠ r) : SB.onLit v no κ = r ↔ ∃ x0, v = .lit x0 ∧ κ x0 = r := by cases v <;> first | exact ⟨fun e => absurd e h, fun e => by simp at e⟩ | exact ⟨fun e => ⟨_, rfl, e⟩, fun ⟨_, e0, e⟩ => by cases e0; exact e⟩
theorem SB.onLit_eq {β : Type} (v : SB) (no : β) (κ : Bool → β) : SB.onLit v no κ = match v with | .lit x0 => κ x0 | _ => no := by cases v <;> rfl

theorem _root_.Go.TypeDesc.onInt_iff {β : Type} {v : TypeDesc} {no : β} {κ : IntKind → β} {r : β} (h : no ≠ r) : TypeDesc.onInt v no κ = r ↔ ∃ x0, v = .int x0 ∧ κ x0 = r := by cases v <;> first | exact ⟨fun e => absurd e h, fun e => by simp at e⟩ | exact ⟨fun e => ⟨_, rfl, e⟩, fun ⟨_, e0, e⟩ => by cases e0; exact e⟩
theorem _root_.Go.TypeDesc.onInt_eq {β : Type} (v : TypeDesc) (no : β) (κ : IntKind → β) : TypeDesc.onInt v no κ = match v with | .int x0 => κ x0 | _ => no := by cases v <;> rfl
theorem _root_.Go.TypeDesc.onBool_iff {β : Type} {v : TypeDesc} {no : β} {κ : β} {r : β} (h : no ≠ r) : TypeDesc.onBool v no κ = r ↔ v = .bool  ∧ κ  = r := by cases v <;> first | exact ⟨fun e => absurd e h, fun e => by simp at e⟩ | exact ⟨fun e => ⟨rfl, e⟩, fun ⟨e0, e⟩ => by cases e0; exact e⟩
theorem _root_.Go.TypeDesc.onBool_eq {β : Type} (v : TypeDesc) (no : β) (κ : β) : TypeDesc.onBool v no κ = match v with | .bool  => κ  | _ => no := by cases v <;> rfl
theorem _root_.Go.TypeDesc.onString_iff {β : Type} {v : TypeDesc} {no : β} {κ : β} {r : β} (h : no ≠ r) : TypeDesc.onString v no κ = r ↔ v = .string  ∧ κ  = r := by cases v <;> first | exact ⟨fun e => absurd e h, fun e => by simp at e⟩ | exact ⟨fun e => ⟨rfl, e⟩, fun ⟨e0, e⟩ => by cases e0; exact e⟩
theorem _root_.Go.TypeDesc.onString_eq {β : Type} (v : TypeDesc) (no : β) (κ : β) : TypeDesc.onString v no κ = match v with | .string  => κ  | _ => no := by cases v <;> rfl
theorem _root_.Go.TypeDesc.onUnsafePointer_iff {β : Type} {v : TypeDesc} {no : β} {κ : β} {r : β} (h : no ≠ r) : TypeDesc.onUnsafePointer v no κ = r ↔ v = .unsafePointer  ∧ κ  = r := by cases v <;> first | exact ⟨fun e => absurd e h, fun e => by simp at e⟩ | exact ⟨fun e => ⟨rfl, e⟩, fun ⟨e0, e⟩ => by cases e0; exact e⟩
theorem _root_.Go.TypeDesc.onUnsafePointer_eq {β : Type} (v : TypeDesc) (no : β) (κ : β) : TypeDesc.onUnsafePointer v no κ = match v with | .unsafePointer  => κ  | _ => no := by cases v <;> rfl
theorem _root_.Go.TypeDesc.onPointer_iff {β : Type} {v : TypeDesc} {no : β} {κ : TypeId → β} {r : β} (h : no ≠ r) : TypeDesc.onPointer v no κ = r ↔ ∃ x0, v = .pointer x0 ∧ κ x0 = r := by cases v <;> first | exact ⟨fun e => absurd e h, fun e => by simp at e⟩ | exact ⟨fun e => ⟨_, rfl, e⟩, fun ⟨_, e0, e⟩ => by cases e0; exact e⟩
theorem _root_.Go.TypeDesc.onPointer_eq {β : Type} (v : TypeDesc) (no : β) (κ : TypeId → β) : TypeDesc.onPointer v no κ = match v with | .pointer x0 => κ x0 | _ => no := by cases v <;> rfl
theorem _root_.Go.TypeDesc.onSlice_iff {β : Type} {v : TypeDesc} {no : β} {κ : TypeId → β} {r : β} (h : no ≠ r) : TypeDesc.onSlice v no κ = r ↔ ∃ x0, v = .slice x0 ∧ κ x0 = r := by cases v <;> first | exact ⟨fun e => absurd e h, fun e => by simp at e⟩ | exact ⟨fun e => ⟨_, rfl, e⟩, fun ⟨_, e0, e⟩ => by cases e0; exact e⟩
theorem _root_.Go.TypeDesc.onSlice_eq {β : Type} (v : TypeDesc) (no : β) (κ : TypeId → β) : TypeDesc.onSlice v no κ = match v with | .slice x0 => κ x0 | _ => no := by cases v <;> rfl
theorem _root_.Go.TypeDesc.onArray_iff {β : Type} {v : TypeDesc} {no : β} {κ : Nat → TypeId → β} {r : β} (h : no ≠ r) : TypeDesc.onArray v no κ = r ↔ ∃ x0 x1, v = .array x0 x1 ∧ κ x0 x1 = r := by cases v <;> first | exact ⟨fun e => absurd e h, fun e => by simp at e⟩ | exact ⟨fun e => ⟨_, _, rfl, e⟩, fun ⟨_, _, e0, e⟩ => by cases e0; exact e⟩
theorem _root_.Go.TypeDesc.onArray_eq {β : Type} (v : TypeDesc) (no : β) (κ : Nat → TypeId → β) : TypeDesc.onArray v no κ = match v with | .array x0 x1 => κ x0 x1 | _ => no := by cases v <;> rfl
theorem _root_.Go.TypeDesc.onMap_iff {β : Type} {v : TypeDesc} {no : β} {κ : TypeId → TypeId → β} {r : β} (h : no ≠ r) : TypeDesc.onMap v no κ = r ↔ ∃ x0 x1, v = .map x0 x1 ∧ κ x0 x1 = r := by cases v <;> first | exact ⟨fun e => absurd e h, fun e => by simp at e⟩ | exact ⟨fun e => ⟨_, _, rfl, e⟩, fun ⟨_, _, e0, e⟩ => by cases e0; exact e⟩
theorem _root_.Go.TypeDesc.onMap_eq {β : Type} (v : TypeDesc) (no : β) (κ : TypeId → TypeId → β) : TypeDesc.onMap v no κ = match v with | .map x0 x1 => κ x0 x1 | _ => no := by cases v <;> rfl
theorem _root_.Go.TypeDesc.onChan_iff {β : Type} {v : TypeDesc} {no : β} {κ : ChanDir → TypeId → β} {r : β} (h : no ≠ r) : TypeDesc.onChan v no κ = r ↔ ∃ x0 x1, v = .chan x0 x1 ∧ κ x0 x1 = r := by cases v <;> first | exact ⟨fun e => absurd e h, fun e => by simp at e⟩ | exact ⟨fun e => ⟨_, _, rfl, e⟩, fun ⟨_, _, e0, e⟩ => by cases e0; exact e⟩
theorem _root_.Go.TypeDesc.onChan_eq {β : Type} (v : TypeDesc) (no : β) (κ : ChanDir → TypeId → β) : TypeDesc.onChan v no κ = match v with | .chan x0 x1 => κ x0 x1 | _ => no := by cases v <;> rfl
theorem _root_.Go.TypeDesc.onStruct_iff {β : Type} {v : TypeDesc} {no : β} {κ : Array Field → β} {r : β} (h : no ≠ r) : TypeDesc.onStruct v no κ = r ↔ ∃ x0, v = .struct x0 ∧ κ x0 = r := by cases v <;> first | exact ⟨fun e => absurd e h, fun e => by simp at e⟩ | exact ⟨fun e => ⟨_, rfl, e⟩, fun ⟨_, e0, e⟩ => by cases e0; exact e⟩
theorem _root_.Go.TypeDesc.onStruct_eq {β : Type} (v : TypeDesc) (no : β) (κ : Array Field → β) : TypeDesc.onStruct v no κ = match v with | .struct x0 => κ x0 | _ => no := by cases v <;> rfl

theorem R.onNorm_iff {β : Type} {v : R} {no : β} {κ : St → β} {r : β} (h : no ≠ r) : R.onNorm v no κ = r ↔ ∃ x0, v = .norm x0 ∧ κ x0 = r := by cases v <;> first | exact ⟨fun e => absurd e h, fun e => by simp at e⟩ | exact ⟨fun e => ⟨_, rfl, e⟩, fun ⟨_, e0, e⟩ => by cases e0; exact e⟩
theorem R.onNorm_eq {β : Type} (v : R) (no : β) (κ : St → β) : R.onNorm v no κ = match v with | .norm x0 => κ x0 | _ => no := by cases v <;> rfl
theorem R.onExit_iff {β : Type} {v : R} {no : β} {κ : Nat → St → β} {r : β} (h : no ≠ r) : R.onExit v no κ = r ↔ ∃ x0 x1, v = .exit x0 x1 ∧ κ x0 x1 = r := by cases v <;> first | exact ⟨fun e => absurd e h, fun e => by simp at e⟩ | exact ⟨fun e => ⟨_, _, rfl, e⟩, fun ⟨_, _, e0, e⟩ => by cases e0; exact e⟩
theorem R.onExit_eq {β : Type} (v : R) (no : β) (κ : Nat → St → β) : R.onExit v no κ = match v with | .exit x0 x1 => κ x0 x1 | _ => no := by cases v <;> rfl
theorem R.onGoto_iff {β : Type} {v : R} {no : β} {κ : Nat → St → β} {r : β} (h : no ≠ r) : R.onGoto v no κ = r ↔ ∃ x0 x1, v = .goto x0 x1 ∧ κ x0 x1 = r := by cases v <;> first | exact ⟨fun e => absurd e h, fun e => by simp at e⟩ | exact ⟨fun e => ⟨_, _, rfl, e⟩, fun ⟨_, _, e0, e⟩ => by cases e0; exact e⟩
theorem R.onGoto_eq {β : Type} (v : R) (no : β) (κ : Nat → St → β) : R.onGoto v no κ = match v with | .goto x0 x1 => κ x0 x1 | _ => no := by cases v <;> rfl
/-! ### Tables -/
section
variable {α : Type}
@[simp] theorem Tr.get_e (k : Nat) : (Tr.e : Tr α).get k = none := rfl
theorem Tr.get_n (v : Option α) (l r : Tr α) (k : Nat) : (Tr.n v l r).get k = if k = 0 then v else if k % 2 = 1 then l.get (k / 2) else r.get (k / 2 - 1) := by
  show ife (Nat.beq k 0) v (ife (Nat.beq (k % 2) 1) (l.get (k / 2)) (r.get (k / 2 - 1))) = _
  rw [ife_eq, ife_eq]
  simp only [Nat.beq_eq]
theorem Tr.sing_succ (a : Option α) (f k : Nat) : Tr.sing a (f + 1) k = if k = 0 then .n a .e .e else if k % 2 = 1 then .n none (Tr.sing a f (k / 2)) .e else .n none .e (Tr.sing a f (k / 2 - 1)) := by
  show ife (Nat.beq k 0) _ (ife (Nat.beq (k % 2) 1) _ _) = _
  rw [ife_eq, ife_eq]
  simp only [Nat.beq_eq]
  rfl
theorem Tr.sing_get (a : Option α) : ∀ (f k j : Nat), k < 2 ^ f → (Tr.sing a (f + 1) k).get j = if j = k then a else none
  | 0, k, j, h => by
    have : k = 0 := by simp at h; exact h
    subst this
    rw [Tr.sing_succ, if_pos rfl, Tr.get_n]
    simp
  | f + 1, k, j, h => by
    rw [Tr.sing_succ]
    by_cases hk : k = 0
    · subst hk; rw [if_pos rfl, Tr.get_n]; simp
    · rw [if_neg hk]
      by_cases h2 : k % 2 = 1
      · rw [if_pos h2, Tr.get_n, Tr.sing_get a f (k / 2) _ (by rw [Nat.pow_succ] at h; omega)]
        by_cases hj : j = 0
        · subst hj; simp [Ne.symm hk]
        · rw [if_neg hj]
          by_cases hj2 : j % 2 = 1
          · rw [if_pos hj2]
            by_cases e : j = k
            · subst e; simp
            · rw [if_neg e, if_neg (by omega)]
          · rw [if_neg hj2, if_neg (by omega)]; rfl
      · rw [if_neg h2, Tr.get_n, Tr.sing_get a f (k / 2 - 1) _ (by rw [Nat.pow_succ] at h; omega)]
        by_cases hj : j = 0
        · subst hj; simp [Ne.symm hk]
        · rw [if_neg hj]
          by_cases hj2 : j % 2 = 1
          · rw [if_pos hj2, if_neg (by omega)]; rfl
          · rw [if_neg hj2]
            by_cases e : j = k
            · subst e; simp
            · rw [if_neg e, if_neg (by omega)]
theorem Tr.set_e (k : Nat) (a : Option α) : (Tr.e : Tr α).set k a = Tr.sing a 64 k := rfl
theorem Tr.set_n (v : Option α) (l r : Tr α) (k : Nat) (a : Option α) : (Tr.n v l r).set k a = if k = 0 then .n a l r else if k % 2 = 1 then .n v (l.set (k / 2) a) r else .n v l (r.set (k / 2 - 1) a) := by
  show ife (Nat.beq k 0) _ (ife (Nat.beq (k % 2) 1) _ _) = _
  rw [ife_eq, ife_eq]
  simp only [Nat.beq_eq]
  rfl
theorem Tr.get_set (t : Tr α) : ∀ (k : Nat) (a : Option α) (j : Nat), k < 2 ^ 63 → (t.set k a).get j = if j = k then a else t.get j := by
  induction t with
  | e => intro k a j h; rw [Tr.set_e, Tr.sing_get a 63 k j h]; simp
  | n v l r il ir =>
    intro k a j h
    rw [Tr.set_n]
    by_cases hk : k = 0
    · subst hk
      rw [if_pos rfl, Tr.get_n, Tr.get_n]
      by_cases hj : j = 0 <;> simp [hj]
    · rw [if_neg hk]
      by_cases h2 : k % 2 = 1
      · rw [if_pos h2, Tr.get_n, Tr.get_n, il _ _ _ (by omega)]
        by_cases hj : j = 0
        · subst hj; simp [Ne.symm hk]
        · rw [if_neg hj, if_neg hj]
          by_cases hj2 : j % 2 = 1
          · rw [if_pos hj2, if_pos hj2]
            by_cases e : j = k
            · subst e; simp
            · rw [if_neg e, if_neg (by omega)]
          · rw [if_neg hj2, if_neg hj2, if_neg (by omega)]
      · rw [if_neg h2, Tr.get_n, Tr.get_n, ir _ _ _ (by omega)]
        by_cases hj : j = 0
        · subst hj; simp [Ne.symm hk]
        · rw [if_neg hj, if_neg hj]
          by_cases hj2 : j % 2 = 1
          · rw [if_pos hj2, if_pos hj2, if_neg (by omega)]
          · rw [if_neg hj2, if_neg hj2]
            by_cases e : j = k
            · subst e; simp
            · rw [if_neg e, if_neg (by omega)]
theorem Tr.tab_get (g : Nat → α) : ∀ (f : Nat) (g : Nat → α) (k : Nat) (v : α), (Tr.tab f g).get k = some v → v = g k
  | 0, g, k, v, h => by have h' : (Tr.e : Tr α).get k = some v := h; simp at h'
  | f + 1, g, k, v, h => by
    have e : Tr.tab (f + 1) g = .n (some (g 0)) (Tr.tab f (fun q => g (2 * q + 1))) (Tr.tab f (fun q => g (2 * q + 2))) := rfl
    rw [e, Tr.get_n] at h
    by_cases hk : k = 0
    · subst hk; simpa using h.symm
    · rw [if_neg hk] at h
      by_cases h2 : k % 2 = 1
      · rw [if_pos h2] at h
        rw [Tr.tab_get g f _ _ _ h]
        congr 1; omega
      · rw [if_neg h2] at h
        rw [Tr.tab_get g f _ _ _ h]
        congr 1; omega
theorem nth_eq : ∀ (l : List α) (k : Nat), nth l k = l[k]?
  | [], k => by simp [nth]
  | a :: l, 0 => rfl
  | a :: l, k + 1 => by rw [List.getElem?_cons_succ, ← nth_eq l k]; rfl
theorem dropL_eq : ∀ (k : Nat) (l : List α), dropL k l = l.drop k
  | 0, l => rfl
  | k + 1, [] => rfl
  | k + 1, a :: l => by rw [List.drop_succ_cons, ← dropL_eq k l]; rfl
theorem lenL_eq : ∀ (l : List α), lenL l = l.length
  | [] => rfl
  | a :: l => by rw [List.length_cons, ← lenL_eq l]; rfl
end
theorem getA_eq (t : Tr AV) (k : Nat) : getA t k = t.get k := rfl
theorem getK_eq (t : Tr Blk) (k : Nat) : getK t k = t.get k := rfl
theorem putA_eq (t : Tr AV) : ∀ (a : Option AV) (k : Nat) (κ : Tr AV → R), putA t a k κ = κ (t.set k a) := by
  induction t with
  | e => intro a k κ; rfl
  | n v l r il ir =>
    intro a k κ
    have e : putA (.n v l r) a k κ = ife (Nat.beq k 0) (κ (.n a l r)) (ife (Nat.beq (k % 2) 1) (putA l a (k / 2) (fun l' => κ (.n v l' r))) (putA r a (k / 2 - 1) (fun r' => κ (.n v l r')))) := rfl
    rw [e, il, ir, ife_eq, ife_eq, Tr.set_n]
    simp only [Nat.beq_eq]
    split
    · rfl
    · split <;> rfl
theorem putK_eq (t : Tr Blk) : ∀ (a : Option Blk) (k : Nat) (κ : Tr Blk → R), putK t a k κ = κ (t.set k a) := by
  induction t with
  | e => intro a k κ; rfl
  | n v l r il ir =>
    intro a k κ
    have e : putK (.n v l r) a k κ = ife (Nat.beq k 0) (κ (.n a l r)) (ife (Nat.beq (k % 2) 1) (putK l a (k / 2) (fun l' => κ (.n v l' r))) (putK r a (k / 2 - 1) (fun r' => κ (.n v l r')))) := rfl
    rw [e, il, ir, ife_eq, ife_eq, Tr.set_n]
    simp only [Nat.beq_eq]
    split
    · rfl
    · split <;> rfl
theorem nthA_eq (l : List AV) (k : Nat) : nthA l k = l[k]? := nth_eq l k
theorem dropA_eq (k : Nat) (l : List AV) : dropA k l = l.drop k := dropL_eq k l
theorem lenAs_eq (l : List AV) : lenAs l = l.length := lenL_eq l
theorem takeK_iff : ∀ {k : Nat} {l : List AV} {no : R} {κ : List AV → R} {r : R}, no ≠ r → (takeK k l no κ = r ↔ k ≤ l.length ∧ κ (l.take k) = r)
  | 0, l, no, κ, r, h => by show κ [] = r ↔ _; simp
  | k + 1, [], no, κ, r, h => ⟨fun e => absurd e h, fun ⟨e, _⟩ => by simp at e⟩
  | k + 1, a :: l, no, κ, r, h => by
    show takeK k l no (fun r => κ (a :: r)) = r ↔ _
    rw [takeK_iff h]; simp
theorem takeN_iff : ∀ {k : Nat} {l : List Nat} {no : R} {κ : List Nat → R} {r : R}, no ≠ r → (takeN k l no κ = r ↔ k ≤ l.length ∧ κ (l.take k) = r)
  | 0, l, no, κ, r, h => by show κ [] = r ↔ _; simp
  | k + 1, [], no, κ, r, h => ⟨fun e => absurd e h, fun ⟨e, _⟩ => by simp at e⟩
  | k + 1, a :: l, no, κ, r, h => by
    show takeN k l no (fun r => κ (a :: r)) = r ↔ _
    rw [takeN_iff h]; simp
theorem overK_iff : ∀ {vs l : List AV} {no : R} {κ : List AV → R} {r : R}, no ≠ r → (overK vs l no κ = r ↔ vs.length ≤ l.length ∧ κ (vs ++ l.drop vs.length) = r)
  | [], l, no, κ, r, h => by show κ l = r ↔ _; simp
  | v :: vs, [], no, κ, r, h => ⟨fun e => absurd e h, fun ⟨e, _⟩ => by simp at e⟩
  | v :: vs, a :: l, no, κ, r, h => by
    show overK vs l no (fun r => κ (v :: r)) = r ↔ _
    rw [overK_iff h]; simp
theorem overAtK_iff : ∀ {k : Nat} {vs l : List AV} {no : R} {κ : List AV → R} {r : R}, no ≠ r → (overAtK k vs l no κ = r ↔ k + vs.length ≤ l.length ∧ κ (l.take k ++ (vs ++ l.drop (k + vs.length))) = r)
  | 0, vs, l, no, κ, r, h => by show overK vs l no κ = r ↔ _; rw [overK_iff h]; simp
  | k + 1, vs, [], no, κ, r, h => ⟨fun e => absurd e h, fun ⟨e, _⟩ => by simp at e⟩
  | k + 1, vs, a :: l, no, κ, r, h => by
    show overAtK k vs l no (fun r => κ (a :: r)) = r ↔ _
    rw [overAtK_iff h, show k + 1 + vs.length = (k + vs.length) + 1 by omega]; simp
theorem appK_eq : ∀ (a b : List AV) (κ : List AV → R), appK a b κ = κ (a ++ b)
  | [], b, κ => rfl
  | x :: a, b, κ => appK_eq a b (fun r => κ (x :: r))
theorem forceN_eq (n : Nat) (κ : Nat → R) : forceN n κ = κ n := by cases n <;> rfl
theorem forceI_eq (n : Int) (κ : Int → R) : forceI n κ = κ n := by
  cases n
  · exact forceN_eq _ _
  · exact forceN_eq _ _
theorem ilt_eq (x y : Int) : ilt x y = decide (x < y) := by
  cases x <;> cases y
  · rename_i a b; show Nat.blt a b = _; rw [Bool.eq_iff_iff]; simp [Nat.blt_eq]
  · rename_i a b; show false = _; rw [Bool.eq_iff_iff]; simp; omega
  · rename_i a b; show true = _; rw [Bool.eq_iff_iff]; simp; omega
  · rename_i a b; show Nat.blt b a = _; rw [Bool.eq_iff_iff]; simp [Nat.blt_eq]; omega
theorem ieq_eq (x y : Int) : ieq x y = decide (x = y) := by
  cases x <;> cases y
  · rename_i a b; show Nat.beq a b = _; rw [Bool.eq_iff_iff]; simp [Nat.beq_eq]; omega
  · rename_i a b; show false = _; rw [Bool.eq_iff_iff]; simp
  · rename_i a b; show false = _; rw [Bool.eq_iff_iff]; simp
  · rename_i a b; show Nat.beq a b = _; rw [Bool.eq_iff_iff]; simp [Nat.beq_eq]

/-! ### Blocks -/
theorem BT.get_leaf (l : List AV) (k : Nat) : (BT.leaf l).get k = l[k]? := nthA_eq l k
theorem BT.get_node (m : Nat) (a b : BT) (k : Nat) : (BT.node m a b).get k = if k < m then a.get k else b.get (k - m) := by
  show ife (Nat.blt k m) (a.get k) (b.get (k - m)) = _
  rw [ife_eq]; simp only [Nat.blt_eq]
theorem BT.len_leaf (l : List AV) : (BT.leaf l).len = l.length := lenAs_eq l
theorem BT.len_node (m : Nat) (a b : BT) : (BT.node m a b).len = a.len + b.len := rfl
theorem BT.ext_ok (c : BT) : ∀ {o n : Nat} {no : R} {κ : List AV → R} {r : R}, no ≠ r → c.ext o n no κ = r → ∃ vs, vs.length = n ∧ (∀ j, j < n → c.get (o + j) = vs[j]?) ∧ κ vs = r := by
  induction c with
  | leaf l =>
    intro o n no κ r h e
    have e' : takeK n (dropA o l) no κ = r := e
    rw [takeK_iff h, dropA_eq] at e'
    obtain ⟨h1, h2⟩ := e'
    refine ⟨_, by simp at h1 ⊢; omega, fun j hj => ?_, h2⟩
    rw [BT.get_leaf, List.getElem?_take, if_pos hj, List.getElem?_drop]
  | node m a b ia ib =>
    intro o n no κ r h e
    have e' : ife (Nat.ble (o + n) m) (a.ext o n no κ) (ife (Nat.ble m o) (b.ext (o - m) n no κ) (a.ext o (m - o) no (fun x => b.ext 0 (o + n - m) no (fun y => appK x y κ)))) = r := e
    simp only [ife_eq, Nat.ble_eq] at e'
    split at e'
    · obtain ⟨vs, h1, h2, h3⟩ := ia h e'
      exact ⟨vs, h1, fun j hj => by rw [BT.get_node, if_pos (by omega), h2 j hj], h3⟩
    · split at e'
      · obtain ⟨vs, h1, h2, h3⟩ := ib h e'
        exact ⟨vs, h1, fun j hj => by rw [BT.get_node, if_neg (by omega), show o + j - m = o - m + j by omega, h2 j hj], h3⟩
      · obtain ⟨x, h1, h2, h3⟩ := ia h e'
        obtain ⟨y, h4, h5, h6⟩ := ib h h3
        rw [appK_eq] at h6
        refine ⟨x ++ y, by simp; omega, fun j hj => ?_, h6⟩
        rw [BT.get_node]
        by_cases hm : o + j < m
        · rw [if_pos hm, h2 j (by omega), List.getElem?_append_left (by omega)]
        · rw [if_neg hm, List.getElem?_append_right (by omega), h1, ← h5 _ (by omega)]
          congr 1; omega
theorem BT.puts_ok (c : BT) : ∀ {o : Nat} {vs : List AV} {no : R} {κ : BT → R} {r : R}, no ≠ r → c.puts o vs no κ = r →
    ∃ c' : BT, c'.len = c.len ∧ (∀ i, c'.get i = if o ≤ i ∧ i < o + vs.length then vs[i - o]? else c.get i) ∧ (∀ i, o ≤ i → i < o + vs.length → (c.get i).isSome = true) ∧ κ c' = r := by
  induction c with
  | leaf l =>
    intro o vs no κ r h e
    have e' : overAtK o vs l no (fun r => κ (.leaf r)) = r := e
    rw [overAtK_iff h] at e'
    obtain ⟨h1, h2⟩ := e'
    refine ⟨_, ?_, fun i => ?_, fun i h3 h4 => ?_, h2⟩
    · rw [BT.len_leaf, BT.len_leaf]; simp; omega
    · rw [BT.get_leaf, BT.get_leaf]
      by_cases hi : i < o
      · rw [List.getElem?_append_left (by simp; omega), List.getElem?_take, if_pos hi, if_neg (by omega)]
      · rw [List.getElem?_append_right (by simp; omega)]
        simp only [List.length_take, Nat.min_eq_left (show o ≤ l.length by omega)]
        by_cases hv : i - o < vs.length
        · rw [List.getElem?_append_left hv, if_pos (by omega)]
        · rw [List.getElem?_append_right (by omega), List.getElem?_drop, if_neg (by omega)]
          congr 1; omega
    · rw [BT.get_leaf, List.getElem?_eq_getElem (by omega)]; rfl
  | node m a b ia ib =>
    intro o vs no κ r h e
    have e' : ife (Nat.ble (o + lenAs vs) m) (a.puts o vs no (fun a' => κ (.node m a' b))) (ife (Nat.ble m o) (b.puts (o - m) vs no (fun b' => κ (.node m a b')))
      (takeK (m - o) vs no (fun x => a.puts o x no (fun a' => b.puts 0 (dropA (m - o) vs) no (fun b' => κ (.node m a' b')))))) = r := e
    simp only [ife_eq, Nat.ble_eq, lenAs_eq, dropA_eq] at e'
    split at e'
    · obtain ⟨c', h1, h2, h3, h4⟩ := ia h e'
      refine ⟨_, by rw [BT.len_node, BT.len_node, h1], fun i => ?_, fun i h5 h6 => ?_, h4⟩
      · rw [BT.get_node, BT.get_node, h2]
        by_cases hm : i < m
        · rw [if_pos hm, if_pos hm]
        · rw [if_neg hm, if_neg hm, if_neg (by omega)]
      · rw [BT.get_node, if_pos (by omega)]; exact h3 i h5 h6
    · split at e'
      · obtain ⟨c', h1, h2, h3, h4⟩ := ib h e'
        refine ⟨_, by rw [BT.len_node, BT.len_node, h1], fun i => ?_, fun i h5 h6 => ?_, h4⟩
        · rw [BT.get_node, BT.get_node, h2]
          by_cases hm : i < m
          · rw [if_pos hm, if_pos hm, if_neg (by omega)]
          · rw [if_neg hm, if_neg hm]
            by_cases hv : o ≤ i ∧ i < o + vs.length
            · rw [if_pos hv, if_pos (by omega)]; congr 1; omega
            · rw [if_neg hv, if_neg (by omega)]
        · rw [BT.get_node, if_neg (by omega)]; exact h3 _ (by omega) (by omega)
      · rw [takeK_iff h] at e'
        obtain ⟨hl, e'⟩ := e'
        obtain ⟨a', h1, h2, h3, h4⟩ := ia h e'
        obtain ⟨b', h5, h6, h7, h8⟩ := ib h h4
        have hx : (vs.take (m - o)).length = m - o := by simp; omega
        have hy : (vs.drop (m - o)).length = vs.length - (m - o) := by simp
        rw [hx] at h2 h3
        rw [hy] at h6 h7
        refine ⟨_, by rw [BT.len_node, BT.len_node, h1, h5], fun i => ?_, fun i h9 h10 => ?_, h8⟩
        · rw [BT.get_node, BT.get_node, h2, h6]
          by_cases hm : i < m
          · rw [if_pos hm, if_pos hm]
            by_cases hv : o ≤ i
            · rw [if_pos (by omega), if_pos (by omega), List.getElem?_take, if_pos (by omega)]
            · rw [if_neg (by omega), if_neg (by omega)]
          · rw [if_neg hm, if_neg hm]
            by_cases hv : i < o + vs.length
            · rw [if_pos (by omega), if_pos (by omega), List.getElem?_drop]; congr 1; omega
            · rw [if_neg (by omega), if_neg (by omega)]
        · rw [BT.get_node]
          by_cases hm : i < m
          · rw [if_pos hm]; exact h3 i h9 (by omega)
          · rw [if_neg hm]; exact h7 _ (by omega) (by omega)
theorem repL_succ (n : Nat) (z : List AV) : repL (n + 1) z = z ++ repL n z := rfl
theorem repL_len (n : Nat) (z : List AV) : (repL n z).length = n * z.length := by
  induction n with
  | zero => show 0 = _; simp
  | succ n ih => rw [repL_succ, List.length_append, ih, Nat.succ_mul]; omega
theorem repL_get (z : List AV) : ∀ (n i : Nat), i < n * z.length → (repL n z)[i]? = z[i % z.length]?
  | 0, i, h => by simp at h
  | n + 1, i, h => by
    rw [repL_succ]
    by_cases hi : i < z.length
    · rw [List.getElem?_append_left hi, Nat.mod_eq_of_lt hi]
    · rw [List.getElem?_append_right (by omega), repL_get z n _ (by rw [Nat.succ_mul] at h; omega)]
      congr 1
      exact (Nat.mod_eq_sub_mod (by omega)).symm
theorem BT.fill_ok (z : List AV) : ∀ (f n : Nat), (BT.fill f z n).len = n * z.length ∧ ∀ i a, (BT.fill f z n).get i = some a → i < n * z.length ∧ z[i % z.length]? = some a
  | 0, n => by
    show (BT.leaf (repL n z)).len = _ ∧ _
    refine ⟨by rw [BT.len_leaf, repL_len], fun i a h => ?_⟩
    have h' : (BT.leaf (repL n z)).get i = some a := h
    rw [BT.get_leaf] at h'
    have hlt : i < n * z.length := by rw [← repL_len]; exact (List.getElem?_eq_some_iff.1 h').1
    exact ⟨hlt, by rw [← repL_get z n i hlt]; exact h'⟩
  | f + 1, n => by
    have e : BT.fill (f + 1) z n = ife (Nat.ble (n * lenAs z) 32) (.leaf (repL n z)) (BT.node (n / 2 * lenAs z) (BT.fill f z (n / 2)) (BT.fill f z (n - n / 2))) := rfl
    rw [e, ife_eq]
    split
    · refine ⟨by rw [BT.len_leaf, repL_len], fun i a h' => ?_⟩
      rw [BT.get_leaf] at h'
      have hlt : i < n * z.length := by rw [← repL_len]; exact (List.getElem?_eq_some_iff.1 h').1
      exact ⟨hlt, by rw [← repL_get z n i hlt]; exact h'⟩
    · obtain ⟨h1, h2⟩ := BT.fill_ok z f (n / 2)
      obtain ⟨h3, h4⟩ := BT.fill_ok z f (n - n / 2)
      have hs : n / 2 * z.length + (n - n / 2) * z.length = n * z.length := by rw [← Nat.add_mul]; congr 1; omega
      refine ⟨by rw [BT.len_node, h1, h3, hs], fun i a h' => ?_⟩
      rw [BT.get_node, lenAs_eq] at h'
      by_cases hm : i < n / 2 * z.length
      · rw [if_pos hm] at h'
        exact ⟨by omega, (h2 i a h').2⟩
      · rw [if_neg hm] at h'
        obtain ⟨h5, h6⟩ := h4 _ a h'
        refine ⟨by omega, ?_⟩
        rw [← h6]
        congr 1
        have : i = (i - n / 2 * z.length) + z.length * (n / 2) := by rw [Nat.mul_comm z.length]; omega
        conv => lhs; rw [this]
        rw [Nat.add_mul_mod_self_left]
/-! ### Numbers -/
theorem kmax_pow (k : IntKind) : kmax k + 1 = if k.signed then 2 ^ (k.bits - 1) else 2 ^ k.bits := by cases k <;> rfl
theorem kmax_lt (k : IntKind) : kmax k < 2 ^ k.bits := by cases k <;> decide
theorem wrap_le (k : IntKind) (n : Nat) (h : n ≤ kmax k) : k.wrap (n : Int) = n := by
  cases k <;> simp [kmax] at h <;> simp [IntKind.wrap, IntKind.bits, IntKind.signed] <;> omega
theorem upTo_some {s m n : Nat} (h : upTo s m = some n) : s ≤ m ∧ n = s := by
  unfold upTo at h
  rw [ife_iff (by simp)] at h
  simp at h
  exact ⟨h.1, h.2.symm⟩
theorem both_some {a b m r n : Nat} (h : both a b m r = some n) : a ≤ m ∧ b ≤ m ∧ n = r := by
  unfold both at h
  rw [ife_iff (by simp), ife_iff (by simp)] at h
  simp at h
  exact ⟨h.1, h.2.1, h.2.2.symm⟩
theorem ofInt_nat (k : IntKind) (a : Nat) (h : a ≤ kmax k) : (BitVec.ofInt k.bits (a : Int)).toNat = a := by
  have := kmax_lt k
  rw [BitVec.ofInt_natCast, BitVec.toNat_ofNat, Nat.mod_eq_of_lt (by omega)]
theorem pow_le_of (k : IntKind) : ∃ n, kmax k + 1 = 2 ^ n := by rw [kmax_pow]; split <;> exact ⟨_, rfl⟩
theorem IOp.nat_eq (f : IOp) (k : IntKind) (a b n : Nat) (h : f.nat k a b = some n) : f.den k a b = n := by
  obtain ⟨p, hp⟩ := pow_le_of k
  cases f
  case add => obtain ⟨h1, rfl⟩ := upTo_some h; exact wrap_le k _ h1
  case sub =>
    have h' : ife (Nat.ble b a) (upTo (a - b) (kmax k)) none = some n := h
    rw [ife_iff (by simp)] at h'
    obtain ⟨h0, h1⟩ := h'
    obtain ⟨h2, rfl⟩ := upTo_some h1
    have hb : b ≤ a := Nat.le_of_ble_eq_true h0
    show k.wrap ((a : Int) - b) = _
    rw [← Int.ofNat_sub hb]; exact wrap_le k _ h2
  case mul => obtain ⟨h1, rfl⟩ := upTo_some h; exact wrap_le k _ h1
  case quo => obtain ⟨h1, rfl⟩ := upTo_some h; exact wrap_le k _ h1
  case rem =>
    have h' : some (a % b) = some n := h
    injection h' with h'; subst h'; rfl
  case and =>
    obtain ⟨h1, h2, rfl⟩ := both_some h
    show k.wrap ((BitVec.ofInt k.bits (a : Int) &&& BitVec.ofInt k.bits (b : Int)).toNat : Int) = _
    rw [BitVec.toNat_and, ofInt_nat k a h1, ofInt_nat k b h2]
    exact wrap_le k _ (Nat.le_trans Nat.and_le_left h1)
  case or =>
    obtain ⟨h1, h2, rfl⟩ := both_some h
    show k.wrap ((BitVec.ofInt k.bits (a : Int) ||| BitVec.ofInt k.bits (b : Int)).toNat : Int) = _
    rw [BitVec.toNat_or, ofInt_nat k a h1, ofInt_nat k b h2]
    exact wrap_le k _ (by have := Nat.or_lt_two_pow (x := a) (y := b) (n := p) (by omega) (by omega); omega)
  case xor =>
    obtain ⟨h1, h2, rfl⟩ := both_some h
    show k.wrap ((BitVec.ofInt k.bits (a : Int) ^^^ BitVec.ofInt k.bits (b : Int)).toNat : Int) = _
    rw [BitVec.toNat_xor, ofInt_nat k a h1, ofInt_nat k b h2]
    exact wrap_le k _ (by have := Nat.xor_lt_two_pow (x := a) (y := b) (n := p) (by omega) (by omega); omega)
  case andNot =>
    obtain ⟨h1, h2, rfl⟩ := both_some h
    show k.wrap ((BitVec.ofInt k.bits (a : Int) &&& ~~~ (BitVec.ofInt k.bits (b : Int))).toNat : Int) = _
    have hx : ∀ x y : BitVec k.bits, x &&& ~~~ y = x ^^^ (x &&& y) := by
      intro x y; ext i hi; simp; cases x[i] <;> cases y[i] <;> rfl
    rw [hx, BitVec.toNat_xor, BitVec.toNat_and, ofInt_nat k a h1, ofInt_nat k b h2]
    exact wrap_le k _ (by have := Nat.xor_lt_two_pow (x := a) (y := a &&& b) (n := p) (by omega) (by have := Nat.and_le_left (n := a) (m := b); omega); omega)
  case shl =>
    have h' : ife (Nat.ble b 64) (upTo (a * 2 ^ b) (kmax k)) none = some n := h
    rw [ife_iff (by simp)] at h'
    obtain ⟨h0, h1⟩ := h'
    obtain ⟨h2, rfl⟩ := upTo_some h1
    show k.wrap ((a : Int) * 2 ^ (min b k.bits)) = _
    by_cases hb : b ≤ k.bits
    · rw [Nat.min_eq_left hb]
      have : (a : Int) * 2 ^ b = ((a * 2 ^ b : Nat) : Int) := by simp
      rw [this]; exact wrap_le k _ h2
    · have hpow : 2 ^ k.bits ≤ 2 ^ b := Nat.pow_le_pow_right (by omega) (by omega)
      have ha : a = 0 := by
        rcases Nat.eq_zero_or_pos a with h | h
        · exact h
        · have := kmax_lt k
          have : 2 ^ b ≤ a * 2 ^ b := Nat.le_mul_of_pos_left _ h
          omega
      subst ha
      have := wrap_le k 0 (by omega)
      simpa using this
  case shr =>
    have h' : ife (Nat.ble b k.bits) (some (a / 2 ^ b)) none = some n := h
    rw [ife_iff (by simp)] at h'
    obtain ⟨h0, h1⟩ := h'
    injection h1 with h1; subst h1
    show (a : Int).fdiv (2 ^ (min b k.bits)) = _
    rw [Nat.min_eq_left (Nat.le_of_ble_eq_true h0), Int.fdiv_eq_ediv_of_nonneg _ (by exact Int.le_of_lt (Int.pow_pos (by decide)))]
    simp
  case conv => obtain ⟨h1, rfl⟩ := upTo_some h; exact wrap_le k _ h1
theorem IOp.fast_eq (f : IOp) (k : IntKind) (x y : Int) : f.fast k x y = f.den k x y := by
  cases x with
  | negSucc a => rfl
  | ofNat a =>
    cases y with
    | negSucc b => rfl
    | ofNat b =>
      show onSome (f.nat k a b) (f.den k (.ofNat a) (.ofNat b)) Int.ofNat = _
      cases h : f.nat k a b with
      | none => rfl
      | some n => exact (IOp.nat_eq f k a b n h).symm

theorem beq_false_iff {a b : Nat} : Nat.beq a b = false ↔ a ≠ b := by
  rw [← Bool.not_eq_true, Nat.beq_eq]
theorem blt_false_iff {a b : Nat} : Nat.blt a b = false ↔ b ≤ a := by
  rw [← Bool.not_eq_true, Nat.blt_eq]; omega
theorem ble_false_iff {a b : Nat} : Nat.ble a b = false ↔ b < a := by
  rw [← Bool.not_eq_true, Nat.ble_eq]; omega
end Go.Proofs.YtjebljnifeoiaaaGreat.Vm
