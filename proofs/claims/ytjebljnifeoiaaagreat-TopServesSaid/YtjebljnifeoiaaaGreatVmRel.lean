/- What the machine's values and heap say of a world. No condition but those each theorem names. -/
import Derived.Test.YtjebljnifeoiaaaGreatVmLaws
import Derived.Deep.MidRow
import Derived.Below
import Derived.Laws.Entries
namespace Go.Proofs.YtjebljnifeoiaaaGreat.Vm
open Go
set_option linter.unusedVariables false
set_option linter.unusedSimpArgs false

/-- A slice that came in: its value, where its elements lie, how many, how many cells each, what they hold (a bool as 1 or 0). -/
structure FS where
  v : Value
  blk : Nat
  off : Nat
  len : Nat
  esz : Nat
  cell : Nat → Nat → Int
/-- What the machine's numbers stand for: a block: the world's block, the first place, the end; the named numbers. -/
structure Env where
  ρ : Nat → Option (Nat × Nat × Nat)
  σ : Nat → Int
  β : Nat → Bool
  fs : Nat → FS
noncomputable def SI.den (E : Env) : SI → Int
  | .lit n => n
  | .var i => E.σ i
  | .app f k a b => f.den k (a.den E) (b.den E)
  | .elem s i j => (E.fs s).cell (i.den E).toNat j
  | .len s => (E.fs s).len
noncomputable def SB.den (E : Env) : SB → Bool
  | .lit b => b
  | .var i => E.β i
  | .elem s i j => (E.fs s).cell (i.den E).toNat j != 0
noncomputable def Atom.den (E : Env) : Atom → Bool
  | .lt a b => decide (a.den E < b.den E)
  | .eq a b => decide (a.den E = b.den E)
  | .bool b => b.den E
mutual
def Rel (E : Env) : AV → Value → Prop
  | .int k e, v => v = .int k (e.den E)
  | .bool b, v => v = .bool (b.den E)
  | .str l, v => ∃ s : ByteArray, v = .string s ∧ s.data.toList.map UInt8.toNat = l
  | .ptr b o, v => ∃ r ba en, E.ρ b = some (r, ba, en) ∧ v = .pointer (some ⟨r, ba + o, none⟩)
  | .nil, v => v = .pointer none
  | .slc b o n lo ex z, v => ∃ r ba en c, E.ρ b = some (r, ba, en) ∧ v = .slice (some ⟨r, ba + o, none⟩) n c ∧ n ≤ c ∧ lo ≤ c ∧ (ex = true → c = lo) ∧ ba + o + c * z ≤ en
  | .etl b o1 o2 z, v => ∃ r ba en o c, E.ρ b = some (r, ba, en) ∧ v = .slice (some ⟨r, ba + o, none⟩) 0 c ∧ ((o = o1 ∧ c = 0) ∨ (o = o2 ∧ ba + o2 + c * z ≤ en))
  | .nils, v => v = .slice none 0 0
  | .map b, v => ∃ r ba en, E.ρ b = some (r, ba, en) ∧ v = .map (some r)
  | .nilm, v => v = .map none
  | .chan b, v => ∃ r ba en, E.ρ b = some (r, ba, en) ∧ v = .chan (some r)
  | .nilc, v => v = .chan none
  | .fn f cs, v => ∃ vs, v = .func (.func f) #[] vs ∧ RelL E cs vs.toList
  | .nilf, v => v = .nilFunc
  | .iface t a, v => ∃ x, v = .iface t x ∧ Rel E a x
  | .nili, v => v = .nilIface
  | .agg cs, v => ∃ vs, v = .agg vs ∧ RelL E cs vs.toList
  | .tup cs, v => ∃ vs, v = .tuple vs ∧ RelL E cs vs.toList
  | .fsl s, v => v = (E.fs s).v
  | .fpt s i j, v => v = .pointer (some ⟨(E.fs s).blk, (E.fs s).off + (i.den E).toNat * (E.fs s).esz + j, none⟩) ∧ 0 ≤ i.den E ∧ i.den E < (E.fs s).len
def RelL (E : Env) : List AV → List Value → Prop
  | [], m => m = []
  | a :: l, m => ∃ v m', m = v :: m' ∧ Rel E a v ∧ RelL E l m'
end
/-- More blocks are known. -/
structure Ext (E E' : Env) : Prop where
  ρ : ∀ b x, E.ρ b = some x → E'.ρ b = some x
  σ : E'.σ = E.σ
  β : E'.β = E.β
  fs : E'.fs = E.fs
theorem Ext.refl (E : Env) : Ext E E := ⟨fun _ _ h => h, rfl, rfl, rfl⟩
theorem Ext.trans {A B D : Env} (h : Ext A B) (k : Ext B D) : Ext A D := ⟨fun b x e => k.ρ b x (h.ρ b x e), k.σ.trans h.σ, k.β.trans h.β, k.fs.trans h.fs⟩
theorem SI.den_ext {E E' : Env} (h : Ext E E') (e : SI) : e.den E' = e.den E := by
  induction e with
  | lit n => rfl
  | var i => show E'.σ i = E.σ i; rw [h.σ]
  | app f k a b ia ib => show f.den k (a.den E') (b.den E') = _; rw [ia, ib]; rfl
  | elem s i j ih => show (E'.fs s).cell (i.den E').toNat j = _; rw [ih, h.fs]; rfl
  | len s => show ((E'.fs s).len : Int) = _; rw [h.fs]; rfl
theorem SB.den_ext {E E' : Env} (h : Ext E E') (b : SB) : b.den E' = b.den E := by
  cases b with
  | lit b => rfl
  | var i => show E'.β i = E.β i; rw [h.β]
  | elem s i j => show ((E'.fs s).cell (i.den E').toNat j != 0) = _; rw [SI.den_ext h, h.fs]; rfl
mutual
theorem Rel.ext {E E' : Env} (h : Ext E E') : ∀ (a : AV) (v : Value), Rel E a v → Rel E' a v
  | .int k e, v, r => by simp only [Rel] at r ⊢; rw [SI.den_ext h]; exact r
  | .bool b, v, r => by simp only [Rel] at r ⊢; rw [SB.den_ext h]; exact r
  | .str l, v, r => by simpa only [Rel] using r
  | .ptr b o, v, r => by simp only [Rel] at r ⊢; obtain ⟨x, y, z, e, r⟩ := r; exact ⟨x, y, z, h.ρ _ _ e, r⟩
  | .nil, v, r => by simpa only [Rel] using r
  | .slc b o n lo ex z, v, r => by simp only [Rel] at r ⊢; obtain ⟨x, y, z, c, e, r⟩ := r; exact ⟨x, y, z, c, h.ρ _ _ e, r⟩
  | .etl b o1 o2 z, v, r => by simp only [Rel] at r ⊢; obtain ⟨x, y, z, o, c, e, r⟩ := r; exact ⟨x, y, z, o, c, h.ρ _ _ e, r⟩
  | .nils, v, r => by simpa only [Rel] using r
  | .map b, v, r => by simp only [Rel] at r ⊢; obtain ⟨x, y, z, e, r⟩ := r; exact ⟨x, y, z, h.ρ _ _ e, r⟩
  | .nilm, v, r => by simpa only [Rel] using r
  | .chan b, v, r => by simp only [Rel] at r ⊢; obtain ⟨x, y, z, e, r⟩ := r; exact ⟨x, y, z, h.ρ _ _ e, r⟩
  | .nilc, v, r => by simpa only [Rel] using r
  | .fn f cs, v, r => by simp only [Rel] at r ⊢; obtain ⟨vs, e, r⟩ := r; exact ⟨vs, e, RelL.ext h cs _ r⟩
  | .nilf, v, r => by simpa only [Rel] using r
  | .iface t a, v, r => by simp only [Rel] at r ⊢; obtain ⟨x, e, r⟩ := r; exact ⟨x, e, Rel.ext h a _ r⟩
  | .nili, v, r => by simpa only [Rel] using r
  | .agg cs, v, r => by simp only [Rel] at r ⊢; obtain ⟨vs, e, r⟩ := r; exact ⟨vs, e, RelL.ext h cs _ r⟩
  | .tup cs, v, r => by simp only [Rel] at r ⊢; obtain ⟨vs, e, r⟩ := r; exact ⟨vs, e, RelL.ext h cs _ r⟩
  | .fsl s, v, r => by simp only [Rel] at r ⊢; rw [h.fs]; exact r
  | .fpt s i j, v, r => by simp only [Rel] at r ⊢; rw [h.fs, SI.den_ext h]; exact r
theorem RelL.ext {E E' : Env} (h : Ext E E') : ∀ (l : List AV) (m : List Value), RelL E l m → RelL E' l m
  | [], m, r => by simpa only [RelL] using r
  | a :: l, m, r => by simp only [RelL] at r ⊢; obtain ⟨v, m', e, r1, r2⟩ := r; exact ⟨v, m', e, Rel.ext h a v r1, RelL.ext h l m' r2⟩
end
theorem RelL.nil {E : Env} : RelL E [] [] := by simp only [RelL]
theorem RelL.cons {E : Env} {a : AV} {v : Value} {l : List AV} {m : List Value} (h : Rel E a v) (t : RelL E l m) : RelL E (a :: l) (v :: m) := by simp only [RelL]; exact ⟨v, m, rfl, h, t⟩
theorem RelL.len {E : Env} : ∀ {l : List AV} {m : List Value}, RelL E l m → m.length = l.length
  | [], m, h => by simp only [RelL] at h; subst h; rfl
  | a :: l, m, h => by simp only [RelL] at h; obtain ⟨v, m', rfl, _, h2⟩ := h; simp [RelL.len h2]
theorem RelL.get {E : Env} : ∀ {l : List AV} {m : List Value}, RelL E l m → ∀ (i : Nat) (a : AV), l[i]? = some a → ∃ v, m[i]? = some v ∧ Rel E a v
  | [], m, h, i, a, e => by simp at e
  | b :: l, m, h, 0, a, e => by simp only [RelL] at h; obtain ⟨v, m', rfl, h1, _⟩ := h; simp at e; subst e; exact ⟨v, rfl, h1⟩
  | b :: l, m, h, i + 1, a, e => by simp only [RelL] at h; obtain ⟨v, m', rfl, _, h2⟩ := h; simp at e; simpa using RelL.get h2 i a e
theorem RelL.of {E : Env} : ∀ {l : List AV} {m : List Value}, m.length = l.length → (∀ (i : Nat) (a : AV) (v : Value), l[i]? = some a → m[i]? = some v → Rel E a v) → RelL E l m
  | [], m, h, _ => by simp only [RelL]; exact List.length_eq_zero_iff.1 h
  | a :: l, [], h, _ => by simp at h
  | a :: l, v :: m, h, k => RelL.cons (k 0 a v rfl rfl) (RelL.of (by simpa using h) (fun i a v e1 e2 => k (i + 1) a v (by simpa using e1) (by simpa using e2)))
theorem RelL.app {E : Env} : ∀ {l l' : List AV} {m m' : List Value}, RelL E l m → RelL E l' m' → RelL E (l ++ l') (m ++ m')
  | [], l', m, m', h, h' => by simp only [RelL] at h; subst h; exact h'
  | a :: l, l', m, m', h, h' => by simp only [RelL] at h; obtain ⟨v, m1, rfl, h1, h2⟩ := h; exact RelL.cons h1 (RelL.app h2 h')
theorem RelL.take {E : Env} : ∀ (k : Nat) {l : List AV} {m : List Value}, RelL E l m → RelL E (l.take k) (m.take k)
  | 0, l, m, h => by simp only [List.take_zero]; exact RelL.nil
  | k + 1, [], m, h => by simp only [RelL] at h; subst h; exact RelL.nil
  | k + 1, a :: l, m, h => by simp only [RelL] at h; obtain ⟨v, m', rfl, h1, h2⟩ := h; exact RelL.cons h1 (RelL.take k h2)
theorem RelL.drop {E : Env} : ∀ (k : Nat) {l : List AV} {m : List Value}, RelL E l m → RelL E (l.drop k) (m.drop k)
  | 0, l, m, h => h
  | k + 1, [], m, h => by simp only [RelL] at h; subst h; exact RelL.nil
  | k + 1, a :: l, m, h => by simp only [RelL] at h; obtain ⟨v, m', rfl, h1, h2⟩ := h; simpa using RelL.drop k h2
theorem RelL.nil_iff {E : Env} {m : List Value} : RelL E [] m ↔ m = [] := by simp only [RelL]
theorem RelL.cons_iff {E : Env} {a : AV} {l : List AV} {m : List Value} : RelL E (a :: l) m ↔ ∃ v m', m = v :: m' ∧ Rel E a v ∧ RelL E l m' := by simp only [RelL]
/-- What is one cell for the machine is one for the model. -/
theorem Rel.one {E : Env} {a : AV} {v : Value} (h : Rel E a v) (o : oneCell a = true) (hf : ∀ s, (E.fs s).v.oneCell' = true) : v.oneCell' = true := by
  cases a <;> simp only [Rel] at h
  case agg cs => simp [oneCell, AV.onAgg_eq] at o
  case tup cs => simp [oneCell, AV.onAgg_eq, AV.onTup_eq] at o
  case fsl s => rw [h]; exact hf s
  case int => subst h; rfl
  case bool => subst h; rfl
  case str => obtain ⟨s, rfl, _⟩ := h; rfl
  case ptr => obtain ⟨_, _, _, _, rfl⟩ := h; rfl
  case nil => subst h; rfl
  case slc => obtain ⟨_, _, _, _, _, rfl, _⟩ := h; rfl
  case etl => obtain ⟨_, _, _, _, _, _, rfl, _⟩ := h; rfl
  case nils => subst h; rfl
  case map => obtain ⟨_, _, _, _, rfl⟩ := h; rfl
  case nilm => subst h; rfl
  case chan => obtain ⟨_, _, _, _, rfl⟩ := h; rfl
  case nilc => subst h; rfl
  case fn => obtain ⟨_, rfl, _⟩ := h; rfl
  case nilf => subst h; rfl
  case iface => obtain ⟨_, rfl, _⟩ := h; rfl
  case nili => subst h; rfl
  case fpt => obtain ⟨rfl, _⟩ := h; rfl
theorem Rel.cells {E : Env} {a : AV} {v : Value} (h : Rel E a v) (hf : ∀ s, (E.fs s).v.oneCell' = true) : RelL E a.cells v.cells.toList := by
  have key : a.cells = [a] → v.cells = #[v] → RelL E a.cells v.cells.toList := fun e1 e2 => by rw [e1, e2]; exact RelL.cons h RelL.nil
  cases a <;> simp only [Rel] at h
  case agg cs => obtain ⟨vs, rfl, h⟩ := h; simpa [AV.cells, AV.onAgg_eq, Value.cells] using h
  case fsl s =>
    refine key (by simp [AV.cells, AV.onAgg_eq]) ?_
    have := hf s
    rw [← h] at this
    cases v <;> first | rfl | (simp [Value.oneCell'] at this)
  case str => obtain ⟨s, rfl, _⟩ := h; exact key (by simp [AV.cells, AV.onAgg_eq]) rfl
  case ptr => obtain ⟨_, _, _, _, rfl⟩ := h; exact key (by simp [AV.cells, AV.onAgg_eq]) rfl
  case slc => obtain ⟨_, _, _, _, _, rfl, _⟩ := h; exact key (by simp [AV.cells, AV.onAgg_eq]) rfl
  case etl => obtain ⟨_, _, _, _, _, _, rfl, _⟩ := h; exact key (by simp [AV.cells, AV.onAgg_eq]) rfl
  case map => obtain ⟨_, _, _, _, rfl⟩ := h; exact key (by simp [AV.cells, AV.onAgg_eq]) rfl
  case chan => obtain ⟨_, _, _, _, rfl⟩ := h; exact key (by simp [AV.cells, AV.onAgg_eq]) rfl
  case fn => obtain ⟨_, rfl, _⟩ := h; exact key (by simp [AV.cells, AV.onAgg_eq]) rfl
  case iface => obtain ⟨_, rfl, _⟩ := h; exact key (by simp [AV.cells, AV.onAgg_eq]) rfl
  case tup => obtain ⟨_, rfl, _⟩ := h; exact key (by simp [AV.cells, AV.onAgg_eq]) rfl
  case fpt => obtain ⟨rfl, _⟩ := h; exact key (by simp [AV.cells, AV.onAgg_eq]) rfl
  all_goals subst h; exact key (by simp [AV.cells, AV.onAgg_eq]) rfl

/-! ### The state -/
structure EntriesOk (E : Env) (es : List (AV × AV)) (M : List MapEntry) : Prop where
  len : M.length = es.length
  each : ∀ (i : Nat) (p : AV × AV) (e : MapEntry), es[i]? = some p → M[i]? = some e → Rel E p.1 e.key ∧ Rel E p.2 e.val
/-- A block of the machine's, in a world. -/
def BRel (E : Env) (w : World) : Blk → Nat → Nat → Nat → Prop
  | .cells t ex c, r, ba, en => ∃ C, w.heap[r]? = some (.cells C t (0, 0)) ∧ en = C.size ∧ (ex = true → ba = 0 ∧ c.len = C.size) ∧ ∀ i a, c.get i = some a → ∃ v, C[ba + i]? = some v ∧ Rel E a v
  | .map es, r, ba, en => ∃ M clk, w.heap[r]? = some (.map M clk) ∧ EntriesOk E es M.toList ∧ (∀ e ∈ M, e.born < clk) ∧ (M.toList.map (·.born)).Nodup
  | .chan cap buf, r, ba, en => ∃ B s q, w.heap[r]? = some (.chan cap B false s q false) ∧ RelL E buf B.toList
theorem BRel.world {E : Env} {w w' : World} {k : Blk} {r ba en : Nat} (h : BRel E w k r ba en) (e : w'.heap[r]? = w.heap[r]?) : BRel E w' k r ba en := by
  cases k <;> simp only [BRel, e] at h ⊢ <;> exact h
theorem EntriesOk.ext {E E' : Env} (h : Ext E E') {es : List (AV × AV)} {M : List MapEntry} (k : EntriesOk E es M) : EntriesOk E' es M :=
  ⟨k.len, fun i p e h1 h2 => ⟨(k.each i p e h1 h2).1.ext h, (k.each i p e h1 h2).2.ext h⟩⟩
theorem BRel.ext {E E' : Env} (h : Ext E E') {w : World} {k : Blk} {r ba en : Nat} (b : BRel E w k r ba en) : BRel E' w k r ba en := by
  cases k with
  | cells t ex c => obtain ⟨C, h1, h2, h3, h4⟩ := b; exact ⟨C, h1, h2, h3, fun i a e => let ⟨v, h5, h6⟩ := h4 i a e; ⟨v, h5, h6.ext h⟩⟩
  | map es => obtain ⟨M, clk, h1, h2, h3⟩ := b; exact ⟨M, clk, h1, h2.ext h, h3⟩
  | chan cap buf => obtain ⟨B, s, q, h1, h2⟩ := b; exact ⟨B, s, q, h1, h2.ext h⟩
theorem BRel.lt {E : Env} {w : World} {k : Blk} {r ba en : Nat} (b : BRel E w k r ba en) : r < w.heap.size := by
  cases k with
  | cells t ex c => obtain ⟨C, h1, _⟩ := b; exact (Array.getElem?_eq_some_iff.1 h1).1
  | map es => obtain ⟨M, clk, h1, _⟩ := b; exact (Array.getElem?_eq_some_iff.1 h1).1
  | chan cap buf => obtain ⟨B, s, q, h1, _⟩ := b; exact (Array.getElem?_eq_some_iff.1 h1).1
/-- The iterator. -/
def ItOk (X : Nat → Prop) (W0 : World) (E : Env) (H : Heap) (w : World) (b m : Nat) (e : Option (AV × AV)) : Prop :=
  match e with
  | .none => ∃ r rm ba en es M since, E.ρ b = some (r, 0, 0) ∧ ¬ X r ∧ (∀ b' k' r' ba' en', H.tr.get b' = some k' → E.ρ b' = some (r', ba', en') → r' ≠ r) ∧ w.heap[r]? = some (.mapIter (some rm) since #[] since) ∧ H.tr.get m = some (.map es) ∧ E.ρ m = some (rm, ba, en) ∧ w.heap[rm]? = some (.map M since)
  | .some p => ∃ r rm since seen s M clk e, E.ρ b = some (r, 0, 0) ∧ X r ∧ X rm ∧ W0.heap[r]? = some (.mapIter (some rm) since seen clk) ∧ W0.heap[rm]? = some (.map M clk) ∧ seen.back? = some s ∧ M.find? (·.born == s) = some e ∧ Rel E p.1 e.key ∧ Rel E p.2 e.val
def ItRel (X : Nat → Prop) (W0 : World) (E : Env) (H : Heap) (w : World) : Prop := ∀ it, H.it = .some it → ItOk X W0 E H w it.b it.m it.e
def kindVal (o : Option IntKind) (n : Int) : Value := match o with
  | some k => .int k n
  | none => .bool (n != 0)
/-- The slices that came in lie where nobody writes. -/
structure FOk (X : Nat → Prop) (W0 : World) (C : Ctx) (E : Env) : Prop where
  one : ∀ s, (E.fs s).v.oneCell' = true
  val : ∀ s ks, nth C.fk s = some ks → (E.fs s).esz = ks.length ∧ (((E.fs s).v = .slice none 0 0 ∧ (E.fs s).len = 0) ∨ (X (E.fs s).blk ∧ ∃ c, (E.fs s).v = .slice (some ⟨(E.fs s).blk, (E.fs s).off, none⟩) (E.fs s).len c))
  cell : ∀ s ks i j o, nth C.fk s = some ks → i < (E.fs s).len → ks[j]? = some o → W0.cell? ⟨(E.fs s).blk, (E.fs s).off + i * (E.fs s).esz + j, none⟩ = some (kindVal o ((E.fs s).cell i j))
/-- What the heap says of a world: the blocks of one's own; those that are read alone (they lie among what nobody writes, X, as they lay in W0). -/
structure SRel (X : Nat → Prop) (W0 : World) (C : Ctx) (E : Env) (H : Heap) (w : World) : Prop where
  own : ∀ b k, H.tr.get b = some k → ∃ r ba en, E.ρ b = some (r, ba, en) ∧ ¬ X r ∧ BRel E w k r ba en
  ro : ∀ b k, H.ro.get b = some k → ∃ r ba en, E.ρ b = some (r, ba, en) ∧ X r ∧ BRel E W0 k r ba en
  inj : ∀ b b' k k' r ba en r' ba' en', H.get b = some k → H.get b' = some k' → E.ρ b = some (r, ba, en) → E.ρ b' = some (r', ba', en') → b ≠ b' → r ≠ r'
  keep : ∀ r, X r → w.heap[r]? = W0.heap[r]? ∧ r < w.heap.size
  fresh : ∀ b, H.next ≤ b → b < H.lim → E.ρ b = none
  lim : H.lim ≤ 2 ^ 62
  ids : ∀ b x, E.ρ b = some x → b < 2 ^ 62
  it : ItRel X W0 E H w
  fk : FOk X W0 C E
  know : ∀ p ∈ C.know, p.1.den E = p.2
  os : w.os = W0.os
  tape : w.tape = W0.tape
  output : w.output = W0.output
theorem Heap.get_eq (H : Heap) (b : Nat) : H.get b = match H.tr.get b with
    | some k => some k
    | none => H.ro.get b := by
  show onSome (H.tr.get b) (H.ro.get b) some = _
  cases H.tr.get b <;> rfl
section
variable {X : Nat → Prop} {W0 : World} {C : Ctx} {E : Env} {H : Heap} {w : World}
/-- A block that is read. -/
theorem SRel.read (h : SRel X W0 C E H w) {b : Nat} {k : Blk} (e : H.get b = some k) : ∃ r ba en, E.ρ b = some (r, ba, en) ∧ BRel E w k r ba en := by
  rw [Heap.get_eq] at e
  cases ht : H.tr.get b with
  | some k' => rw [ht] at e; simp at e; subst e; obtain ⟨r, ba, en, h1, _, h2⟩ := h.own b _ ht; exact ⟨r, ba, en, h1, h2⟩
  | none => rw [ht] at e; simp at e; obtain ⟨r, ba, en, h1, h2, h3⟩ := h.ro b k e; exact ⟨r, ba, en, h1, h3.world (h.keep r h2).1⟩
/-- A world in which the machine's one block r has turned. -/
structure Turned (w w' : World) (r : Nat) : Prop where
  size : w'.heap.size = w.heap.size
  other : ∀ i, i ≠ r → w'.heap[i]? = w.heap[i]?
  os : w'.os = w.os
  tape : w'.tape = w.tape
  output : w'.output = w.output
theorem Turned.refl (w : World) (r : Nat) : Turned w w r := ⟨rfl, fun _ _ => rfl, rfl, rfl, rfl⟩
theorem Turned.trans {a b c : World} {r : Nat} (h : Turned a b r) (k : Turned b c r) : Turned a c r := ⟨k.size.trans h.size, fun i hi => (k.other i hi).trans (h.other i hi), k.os.trans h.os, k.tape.trans h.tape, k.output.trans h.output⟩
theorem Turned.setCell (w : World) (r o : Nat) (v : Value) : Turned w (w.setCell ⟨r, o, none⟩ v) r :=
  ⟨by simp, fun i hi => heap_setCell_other w ⟨r, o, none⟩ i v hi, rfl, rfl, rfl⟩
theorem Turned.setCells (r : Nat) : ∀ (vs : List Value) (o : Nat) (w : World), Turned w (w.setCells r o vs) r
  | [], _, w => Turned.refl w r
  | v :: vs, o, w => (Turned.setCell w r o v).trans (Turned.setCells r vs (o + 1) _)
theorem Turned.setObj (w : World) (r : Nat) (o : Obj) : Turned w { w with heap := w.heap.setIfInBounds r o } r :=
  ⟨by simp, fun i hi => by simp [Array.getElem?_setIfInBounds, Ne.symm hi], rfl, rfl, rfl⟩
noncomputable def Heap.put (H : Heap) (b : Nat) (k : Option Blk) : Heap := ⟨H.tr.set b k, H.ro, H.next, H.lim, H.it⟩
theorem Heap.setB_eq (H : Heap) (b : Nat) (k : Option Blk) (κ : Heap → R) : H.setB b k κ = κ (H.put b k) := putK_eq H.tr k b _
theorem SRel.idLt (h : SRel X W0 C E H w) {b : Nat} {x : Nat × Nat × Nat} (e : E.ρ b = some x) (hl : b < H.lim) : b < H.next := by
  rcases Nat.lt_or_ge b H.next with h1 | h1
  · exact h1
  · rw [h.fresh b h1 hl] at e; cases e
theorem Heap.put_get {b : Nat} (hb : b < 2 ^ 62) (k : Option Blk) (j : Nat) : (H.put b k).tr.get j = if j = b then k else H.tr.get j := Tr.get_set H.tr b k j (by omega)
/-- One block of one's own turns (or is given up). -/
theorem SRel.upd (h : SRel X W0 C E H w) {b : Nat} {k0 : Blk} (hb : H.tr.get b = some k0) {r ba en : Nat} (hr : E.ρ b = some (r, ba, en)) {w' : World} (ht : Turned w w' r) {k : Option Blk}
    (hk : ∀ k', k = some k' → BRel E w' k' r ba en) (hit : H.it = none ∨ (∀ es, k0 ≠ .map es)) : SRel X W0 C E (H.put b k) w' := by
  obtain ⟨r0, ba0, en0, e0, hx, _⟩ := h.own b k0 hb
  rw [hr] at e0; injection e0 with e0; injection e0 with e0 e1; injection e1 with e1 e2; subst e0 e1 e2
  have hg : ∀ j, (H.put b k).tr.get j = if j = b then k else H.tr.get j := fun j => Heap.put_get (h.ids b _ hr) k j
  have hget : H.get b = some k0 := by rw [Heap.get_eq, hb]
  have hne : ∀ j k' r' ba' en', j ≠ b → H.get j = some k' → E.ρ j = some (r', ba', en') → r' ≠ r := fun j k' r' ba' en' hj h1 h2 => h.inj j b k' k0 r' ba' en' r ba en h1 hget h2 hr hj
  have hgg : ∀ j k', (H.put b k).get j = some k' → ∃ k'', H.get j = some k'' := fun j k' e => by
    by_cases hj : j = b
    · subst hj; exact ⟨k0, hget⟩
    · rw [Heap.get_eq, hg, if_neg hj] at e
      exact ⟨k', by rw [Heap.get_eq]; exact e⟩
  refine ⟨fun j k' e => ?_, h.ro, fun j j' k1 k2 r1 b1 n1 r2 b2 n2 g1 g2 e1 e2 hj => ?_, fun r' hr' => ?_, h.fresh, h.lim, h.ids, ?_, h.fk, h.know, ht.os.trans h.os, ht.tape.trans h.tape, ht.output.trans h.output⟩
  · rw [hg] at e
    by_cases hj : j = b
    · subst hj; rw [if_pos rfl] at e; exact ⟨r, ba, en, hr, hx, hk k' e⟩
    · rw [if_neg hj] at e
      obtain ⟨r', ba', en', h1, h2, h3⟩ := h.own j k' e
      exact ⟨r', ba', en', h1, h2, h3.world (ht.other r' (hne j k' r' ba' en' hj (by rw [Heap.get_eq, e]) h1))⟩
  · obtain ⟨k1', g1'⟩ := hgg j k1 g1
    obtain ⟨k2', g2'⟩ := hgg j' k2 g2
    exact h.inj j j' k1' k2' _ _ _ _ _ _ g1' g2' e1 e2 hj
  · have hn : r' ≠ r := fun e => hx (e ▸ hr')
    exact ⟨(ht.other r' hn).trans (h.keep r' hr').1, by rw [ht.size]; exact (h.keep r' hr').2⟩
  · intro it hq
    have hi := h.it it hq
    rcases hit with hit | hit
    · have hq' : H.it = some it := hq
      rw [hit] at hq'; cases hq'
    · obtain ⟨b', m, p⟩ := it
      cases p with
        | some p => exact hi
        | none =>
          obtain ⟨r1, rm, ba1, en1, es, M, since, h1, h2, h3, h4, h5, h6, h7⟩ := hi
          have hm : m ≠ b := fun e => by rw [e, hb] at h5; injection h5 with h5; exact hit es h5
          have hrm : rm ≠ r := hne m _ rm ba1 en1 hm (by rw [Heap.get_eq, h5]) h6
          have hr1 : r ≠ r1 := h3 b _ r ba en hb hr
          refine ⟨r1, rm, ba1, en1, es, M, since, h1, h2, fun j k' r' ba' en' e1 e2 => ?_, (ht.other r1 (Ne.symm hr1)).trans h4, by rw [hg, if_neg hm]; exact h5, h6, (ht.other rm hrm).trans h7⟩
          rw [hg] at e1
          by_cases hj : j = b
          · subst hj; exact h3 j _ r' ba' en' hb e2
          · rw [if_neg hj] at e1; exact h3 j k' r' ba' en' e1 e2
/-- A new number for a block of the world's. -/
noncomputable def Env.add (E : Env) (b : Nat) (x : Nat × Nat × Nat) : Env := ⟨fun j => if j = b then some x else E.ρ j, E.σ, E.β, E.fs⟩
theorem Env.add_ext {b : Nat} (x : Nat × Nat × Nat) (h : E.ρ b = none) : Ext E (E.add b x) :=
  ⟨fun j y e => by
    show (if j = b then some x else E.ρ j) = _
    by_cases hj : j = b
    · subst hj; rw [h] at e; cases e
    · rw [if_neg hj]; exact e, rfl, rfl, rfl⟩
theorem FOk.ext {E E' : Env} (h : Ext E E') (k : FOk X W0 C E) : FOk X W0 C E' := ⟨by rw [h.fs]; exact k.one, by rw [h.fs]; exact k.val, by rw [h.fs]; exact k.cell⟩
theorem Atom.den_ext {E E' : Env} (h : Ext E E') (a : Atom) : a.den E' = a.den E := by
  cases a <;> simp only [Atom.den, SI.den_ext h, SB.den_ext h]
theorem ItRel.ext {E E' : Env} (h : Ext E E') (hd : ∀ b x k, H.tr.get b = some k → E'.ρ b = some x → E.ρ b = some x) (i : ItRel X W0 E H w) : ItRel X W0 E' H w := by
  intro it hq
  have i := i it hq
  obtain ⟨b', m, p⟩ := it
  cases p with
    | some p =>
      obtain ⟨r, rm, since, seen, s, M, clk, e, h1, h2, h3, h4, h5, h6, h7, h8, h9⟩ := i
      exact ⟨r, rm, since, seen, s, M, clk, e, h.ρ _ _ h1, h2, h3, h4, h5, h6, h7, h8.ext h, h9.ext h⟩
    | none =>
      obtain ⟨r1, rm, ba1, en1, es, M, since, h1, h2, h3, h4, h5, h6, h7⟩ := i
      exact ⟨r1, rm, ba1, en1, es, M, since, h.ρ _ _ h1, h2, fun b k r ba en e1 e2 => h3 b k r ba en e1 (hd b _ k e1 e2), h4, h5, h.ρ _ _ h6, h7⟩
/-- More is known of numbers that no block bears. -/
theorem SRel.ext {E' : Env} (h : SRel X W0 C E H w) (x : Ext E E') {H' : Heap} (et : H'.tr = H.tr) (er : H'.ro = H.ro) (el : H'.lim = H.lim) (ei : H'.it = H.it) (fresh : ∀ b, H'.next ≤ b → b < H'.lim → E'.ρ b = none) (ids : ∀ b x, E'.ρ b = some x → b < 2 ^ 62) : SRel X W0 C E' H' w := by
  have hd : ∀ b y k, H.get b = some k → E'.ρ b = some y → E.ρ b = some y := fun b y k g e => by
    obtain ⟨r, ba, en, h1, _⟩ := h.read g
    have := x.ρ _ _ h1
    rw [e] at this; injection this with this; subst this; exact h1
  have hg : ∀ b, H'.get b = H.get b := fun b => by rw [Heap.get_eq, Heap.get_eq, et, er]
  refine ⟨fun b k e => ?_, fun b k e => ?_, fun b b' k k' r ba en r' ba' en' g1 g2 e1 e2 hb => ?_, h.keep, fresh, by rw [el]; exact h.lim, ids, ?_, h.fk.ext x, fun p hp => by rw [Atom.den_ext x]; exact h.know p hp, h.os, h.tape, h.output⟩
  · rw [et] at e; obtain ⟨r, ba, en, h1, h2, h3⟩ := h.own b k e; exact ⟨r, ba, en, x.ρ _ _ h1, h2, h3.ext x⟩
  · rw [er] at e; obtain ⟨r, ba, en, h1, h2, h3⟩ := h.ro b k e; exact ⟨r, ba, en, x.ρ _ _ h1, h2, h3.ext x⟩
  · rw [hg] at g1 g2
    exact h.inj b b' k k' r ba en r' ba' en' g1 g2 (hd b _ k g1 e1) (hd b' _ k' g2 e2) hb
  · intro it hq
    rw [ei] at hq
    have := h.it.ext x (fun b y k g e => hd b y k (by rw [Heap.get_eq, g]) e) it hq
    unfold ItOk at this ⊢
    rw [et]; exact this
/-- A world that differs in no block. -/
theorem SRel.world (h : SRel X W0 C E H w) {w' : World} (hh : w'.heap = w.heap) (ho : w'.os = w.os) (ht : w'.tape = w.tape) (hu : w'.output = w.output) : SRel X W0 C E H w' := by
  refine ⟨fun b k e => ?_, h.ro, h.inj, fun r hr => by rw [hh]; exact h.keep r hr, h.fresh, h.lim, h.ids, ?_, h.fk, h.know, ho.trans h.os, ht.trans h.tape, hu.trans h.output⟩
  · obtain ⟨r, ba, en, h1, h2, h3⟩ := h.own b k e; exact ⟨r, ba, en, h1, h2, h3.world (by rw [hh])⟩
  · intro it hq
    have := h.it it hq
    unfold ItOk at this ⊢
    rw [hh]; exact this
theorem SRel.drew (h : SRel X W0 C E H w) : SRel X W0 C E H w.drew := h.world rfl rfl rfl rfl
/-- Blocks that come new to the world, and that no number bears. -/
theorem alloc_prev (w : World) (o : Obj) (i : Nat) (h : i < w.heap.size) : (w.alloc o).heap[i]? = w.heap[i]? := by
  show (w.heap.push o)[i]? = _
  rw [Array.getElem?_push]
  split
  · omega
  · rfl
theorem alloc_new (w : World) (o : Obj) : (w.alloc o).heap[w.heap.size]? = some o := by
  show (w.heap.push o)[w.heap.size]? = _
  rw [Array.getElem?_push, if_pos rfl]
theorem ItRel.alloc (i : ItRel X W0 E H w) (o : Obj) (hb : ∀ b k, H.tr.get b = some k → ∃ r ba en, E.ρ b = some (r, ba, en) ∧ BRel E w k r ba en) : ItRel X W0 E H (w.alloc o) := by
  intro it hq
  have i := i it hq
  obtain ⟨b', m, p⟩ := it
  cases p with
    | some p => exact i
    | none =>
      obtain ⟨r1, rm, ba1, en1, es, M, since, h1, h2, h3, h4, h5, h6, h7⟩ := i
      exact ⟨r1, rm, ba1, en1, es, M, since, h1, h2, h3, (alloc_prev w o r1 (Array.getElem?_eq_some_iff.1 h4).1).trans h4, h5, h6, (alloc_prev w o rm (Array.getElem?_eq_some_iff.1 h7).1).trans h7⟩
theorem SRel.alloc (h : SRel X W0 C E H w) (o : Obj) : SRel X W0 C E H (w.alloc o) := by
  refine ⟨fun b k e => ?_, h.ro, h.inj, fun r hr => ⟨(alloc_prev w o r (h.keep r hr).2).trans (h.keep r hr).1, by have := (h.keep r hr).2; simp; omega⟩, h.fresh, h.lim, h.ids, h.it.alloc o (fun b k e => let ⟨r, ba, en, h1, _, h2⟩ := h.own b k e; ⟨r, ba, en, h1, h2⟩), h.fk, h.know, h.os, h.tape, h.output⟩
  obtain ⟨r, ba, en, h1, h2, h3⟩ := h.own b k e
  exact ⟨r, ba, en, h1, h2, h3.world (alloc_prev w o r h3.lt)⟩
/-- Only what the machine added lies between. -/
structure Grew (E E' : Env) (a b : Nat) : Prop where
  ext : Ext E E'
  out : ∀ j, j < a ∨ b ≤ j → E'.ρ j = E.ρ j
theorem Grew.refl (E : Env) (a b : Nat) : Grew E E a b := ⟨Ext.refl E, fun _ _ => rfl⟩
theorem Grew.trans {A B D : Env} {a b d : Nat} (h : Grew A B a b) (k : Grew B D b d) (h1 : a ≤ b) (h2 : b ≤ d) : Grew A D a d :=
  ⟨h.ext.trans k.ext, fun j hj => (k.out j (by omega)).trans (h.out j (by omega))⟩
theorem Grew.mono {A B : Env} {a b a' b' : Nat} (h : Grew A B a b) (h1 : a' ≤ a) (h2 : b ≤ b') : Grew A B a' b' := ⟨h.ext, fun j hj => h.out j (by omega)⟩
noncomputable def Heap.push (H : Heap) (k : Blk) : Heap := ⟨H.tr.set H.next (some k), H.ro, H.next + 1, H.lim, H.it⟩
theorem Heap.new_iff {k : Blk} {no : R} {κ : Nat → Heap → R} {r : R} (h : no ≠ r) : H.new k no κ = r ↔ H.next < H.lim ∧ κ H.next (H.push k) = r := by
  unfold Heap.new
  rw [ife_iff h, Nat.blt_eq, putK_eq, forceN_eq]
  rfl
/-- The world's block r, that no block of the machine's is, gets the next number. -/
theorem SRel.push (h : SRel X W0 C E H w) (hl : H.next < H.lim) {r ba en : Nat} (hX : ¬ X r) (hn : ∀ b k r' ba' en', H.tr.get b = some k → E.ρ b = some (r', ba', en') → r' ≠ r) (hi : ∀ it x, H.it = some it → E.ρ it.b = some x → x.1 ≠ r)
    {k : Blk} (hk : BRel (E.add H.next (r, ba, en)) w k r ba en) : SRel X W0 C (E.add H.next (r, ba, en)) (H.push k) w ∧ Grew E (E.add H.next (r, ba, en)) H.next (H.next + 1) := by
  have hnone : E.ρ H.next = none := h.fresh _ (Nat.le_refl _) hl
  have x : Ext E (E.add H.next (r, ba, en)) := Env.add_ext _ hnone
  have hρ : ∀ j, (E.add H.next (r, ba, en)).ρ j = if j = H.next then some (r, ba, en) else E.ρ j := fun _ => rfl
  have hnot : ∀ j y, E.ρ j = some y → j ≠ H.next := fun j y e hj => by rw [hj, hnone] at e; cases e
  have hg : ∀ j, (H.push k).tr.get j = if j = H.next then some k else H.tr.get j := fun j => Tr.get_set H.tr H.next (some k) j (by have := h.lim; omega)
  have hgget : ∀ j, j ≠ H.next → (H.push k).get j = H.get j := fun j hj => by rw [Heap.get_eq, Heap.get_eq, hg, if_neg hj]; rfl
  have hnx : (H.push k).get H.next = some k := by rw [Heap.get_eq, hg, if_pos rfl]
  have hread : ∀ j k' r' ba' en', H.get j = some k' → E.ρ j = some (r', ba', en') → r' ≠ r := fun j k' r' ba' en' g e => by
    rw [Heap.get_eq] at g
    cases ht : H.tr.get j with
    | some k2 => exact hn j k2 r' ba' en' ht e
    | none =>
      rw [ht] at g
      obtain ⟨r2, ba2, en2, e2, hx2, _⟩ := h.ro j k' g
      rw [e] at e2; injection e2 with e2; injection e2 with e2 _; subst e2
      exact fun e3 => hX (e3 ▸ hx2)
  refine ⟨⟨fun j k' e => ?_, fun j k' e => ?_, fun j j' k1 k2 r1 b1 n1 r2 b2 n2 g1 g2 e1 e2 hj => ?_, h.keep, fun j h1 h2 => ?_, h.lim, fun j y e => ?_, ?_, h.fk.ext x, fun p hp => by rw [Atom.den_ext x]; exact h.know p hp, h.os, h.tape, h.output⟩, ⟨x, fun j hj => by rw [hρ, if_neg (by omega)]⟩⟩
  · rw [hg] at e
    by_cases hj : j = H.next
    · subst hj; rw [if_pos rfl] at e; injection e with e; subst e; exact ⟨r, ba, en, by rw [hρ, if_pos rfl], hX, hk⟩
    · rw [if_neg hj] at e; obtain ⟨r', ba', en', h1, h2, h3⟩ := h.own j k' e; exact ⟨r', ba', en', x.ρ _ _ h1, h2, h3.ext x⟩
  · obtain ⟨r', ba', en', h1, h2, h3⟩ := h.ro j k' e; exact ⟨r', ba', en', x.ρ _ _ h1, h2, h3.ext x⟩
  · by_cases h1 : j = H.next
    · subst h1
      rw [hρ, if_pos rfl] at e1; injection e1 with e1; injection e1 with e1 _; subst e1
      rw [hgget j' (Ne.symm hj)] at g2
      rw [hρ, if_neg (Ne.symm hj)] at e2
      exact Ne.symm (hread j' k2 _ _ _ g2 e2)
    · rw [hgget j h1] at g1
      rw [hρ, if_neg h1] at e1
      by_cases h2 : j' = H.next
      · subst h2
        rw [hρ, if_pos rfl] at e2; injection e2 with e2; injection e2 with e2 _; subst e2
        exact hread j k1 _ _ _ g1 e1
      · rw [hgget j' h2] at g2
        rw [hρ, if_neg h2] at e2
        exact h.inj j j' k1 k2 _ _ _ _ _ _ g1 g2 e1 e2 hj
  · have h1' : H.next + 1 ≤ j := h1
    rw [hρ, if_neg (by omega)]
    exact h.fresh j (by omega) h2
  · rw [hρ] at e
    by_cases hj : j = H.next
    · have := h.lim; omega
    · rw [if_neg hj] at e; exact h.ids j y e
  · intro it hq
    have hq' : H.it = some it := hq
    have i := h.it it hq'
    have hi' := hi it
    obtain ⟨b', m, p⟩ := it
    cases p with
      | some p =>
        obtain ⟨r1, rm, since, seen, s, M, clk, e, h1, h2, h3, h4, h5, h6, h7, h8, h9⟩ := i
        exact ⟨r1, rm, since, seen, s, M, clk, e, x.ρ _ _ h1, h2, h3, h4, h5, h6, h7, h8.ext x, h9.ext x⟩
      | none =>
        obtain ⟨r1, rm, ba1, en1, es, M, since, h1, h2, h3, h4, h5, h6, h7⟩ := i
        refine ⟨r1, rm, ba1, en1, es, M, since, x.ρ _ _ h1, h2, fun j k' r' ba' en' e1 e2 => ?_, h4, by rw [hg, if_neg (hnot m _ h6)]; exact h5, x.ρ _ _ h6, h7⟩
        rw [hg] at e1
        by_cases hj : j = H.next
        · subst hj
          rw [hρ, if_pos rfl] at e2; injection e2 with e2; injection e2 with e2 _; subst e2
          exact Ne.symm (hi' _ hq' h1)
        · rw [if_neg hj] at e1
          rw [hρ, if_neg hj] at e2
          exact h3 j k' r' ba' en' e1 e2
/-- A block that is new to the world. -/
theorem SRel.new (h : SRel X W0 C E H w) (hl : H.next < H.lim) (o : Obj) (en : Nat) {k : Blk} (hk : BRel (E.add H.next (w.heap.size, 0, en)) (w.alloc o) k w.heap.size 0 en) :
    SRel X W0 C (E.add H.next (w.heap.size, 0, en)) (H.push k) (w.alloc o) ∧ Grew E (E.add H.next (w.heap.size, 0, en)) H.next (H.next + 1) :=
  (h.alloc o).push hl (fun hx => by have := (h.keep _ hx).2; omega) (fun b k r' ba' en' g e => by
    obtain ⟨r, ba, en, h1, _, h2⟩ := h.own b k g
    rw [e] at h1; injection h1 with h1; injection h1 with h1 _; subst h1
    have := h2.lt; omega) (fun it x hq e => by
    have i := h.it it hq
    obtain ⟨b', m, p⟩ := it
    cases p with
    | some p =>
      obtain ⟨r1, rm, since, seen, s, M, clk, e', h1, h2, _⟩ := i
      have e : E.ρ b' = some x := e
      rw [e] at h1; injection h1 with h1; subst h1
      have := (h.keep r1 h2).2
      show r1 ≠ _; omega
    | none =>
      obtain ⟨r1, rm, ba1, en1, es, M, since, h1, h2, h3, h4, _⟩ := i
      have e : E.ρ b' = some x := e
      rw [e] at h1; injection h1 with h1; subst h1
      have := (Array.getElem?_eq_some_iff.1 h4).1
      show r1 ≠ _; omega) hk
end
end Go.Proofs.YtjebljnifeoiaaaGreat.Vm
