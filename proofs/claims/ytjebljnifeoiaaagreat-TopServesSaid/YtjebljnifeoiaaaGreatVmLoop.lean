/- The machine in use: states written out; a walk part by part; loops. No condition but those each theorem names. -/
import Derived.Test.YtjebljnifeoiaaaGreatVmRow
namespace Go.Proofs.YtjebljnifeoiaaaGreat.Vm
open Go Go.RowKit
set_option linter.unusedVariables false
set_option linter.unusedSimpArgs false
/-! ### A state told of another: blocks by other numbers, named numbers for terms -/
noncomputable def mSI (θ : List SI) : SI → SI → Bool
  | .lit n, b => b.onLit false fun m => ieq n m
  | .var i, b => onSome (nth θ i) false fun a => beqSI a b
  | .app f k x y, b => match b with
    | .app f' k' x' y' => beqIOp f f' && (beqK k k' && (mSI θ x x' && mSI θ y y'))
    | _ => false
  | .elem s i j, b => match b with
    | .elem s' i' j' => Nat.beq s s' && (mSI θ i i' && Nat.beq j j')
    | _ => false
  | .len s, b => match b with
    | .len s' => Nat.beq s s'
    | _ => false
noncomputable def mSB (θ : List SI) (φ : List SB) : SB → SB → Bool
  | .lit n, b => b.onLit false fun m => beqB n m
  | .var i, b => onSome (nth φ i) false fun a => beqSB a b
  | .elem s i j, b => match b with
    | .elem s' i' j' => Nat.beq s s' && (mSI θ i i' && Nat.beq j j')
    | _ => false
noncomputable def mBlkNo (L : List Nat) (b b' : Nat) : Bool := onSome (nth L b) false fun c => Nat.beq c b'
mutual
noncomputable def mAV (L : List Nat) (θ : List SI) (φ : List SB) : AV → AV → Bool
  | .int k a, .int k' a' => beqK k k' && mSI θ a a'
  | .bool a, .bool b => mSB θ φ a b
  | .str a, .str b => beqNs a b
  | .ptr b o, .ptr b' o' => mBlkNo L b b' && Nat.beq o o'
  | .nil, .nil => true
  | .slc b o n l x z, .slc b' o' n' l' x' z' => mBlkNo L b b' && (Nat.beq o o' && (Nat.beq n n' && (Nat.beq l l' && (beqB x x' && Nat.beq z z'))))
  | .etl b o n l, .etl b' o' n' l' => mBlkNo L b b' && (Nat.beq o o' && (Nat.beq n n' && Nat.beq l l'))
  | .nils, .nils => true
  | .map b, .map b' => mBlkNo L b b'
  | .nilm, .nilm => true
  | .chan b, .chan b' => mBlkNo L b b'
  | .nilc, .nilc => true
  | .fn f l, .fn f' l' => Nat.beq f f' && mAVs L θ φ l l'
  | .nilf, .nilf => true
  | .iface t v, .iface t' v' => Nat.beq t t' && mAV L θ φ v v'
  | .nili, .nili => true
  | .agg l, .agg l' => mAVs L θ φ l l'
  | .tup l, .tup l' => mAVs L θ φ l l'
  | .fsl s, .fsl s' => Nat.beq s s'
  | _, _ => false
noncomputable def mAVs (L : List Nat) (θ : List SI) (φ : List SB) : List AV → List AV → Bool
  | [], [] => true
  | a :: l, b :: m => mAV L θ φ a b && mAVs L θ φ l m
  | _, _ => false
end
noncomputable def mBT (L : List Nat) (θ : List SI) (φ : List SB) : BT → BT → Bool
  | .leaf l, .leaf l' => mAVs L θ φ l l'
  | .node m a b, .node m' a' b' => Nat.beq m m' && (mBT L θ φ a a' && mBT L θ φ b b')
  | _, _ => false
noncomputable def mEnts (L : List Nat) (θ : List SI) (φ : List SB) : List (AV × AV) → List (AV × AV) → Bool
  | [], [] => true
  | p :: l, q :: m => mAV L θ φ p.1 q.1 && (mAV L θ φ p.2 q.2 && mEnts L θ φ l m)
  | _, _ => false
noncomputable def mBlk (L : List Nat) (θ : List SI) (φ : List SB) : Blk → Blk → Bool
  | .cells t ex c, .cells t' ex' c' => Nat.beq t t' && (beqB ex ex' && mBT L θ φ c c')
  | .map es, .map es' => mEnts L θ φ es es'
  | .chan n b, .chan n' b' => Nat.beq n n' && mAVs L θ φ b b'
  | _, _ => false
/-- E2 tells of the same world by other numbers. -/
structure Tells (E E2 : Env) (L : List Nat) (θ : List SI) (φ : List SB) : Prop where
  ρ : ∀ b, E2.ρ b = (L[b]?).bind E.ρ
  σ : ∀ (i : Nat) e, θ[i]? = some e → E2.σ i = e.den E
  β : ∀ (i : Nat) b, φ[i]? = some b → E2.β i = b.den E
  fs : E2.fs = E.fs
section
variable {E E2 : Env} {L : List Nat} {θ : List SI} {φ : List SB}
theorem mSI_ok (T : Tells E E2 L θ φ) : ∀ {a b : SI}, mSI θ a b = true → a.den E2 = b.den E
  | .lit n, b, h => by
    have h' : (b.onLit false fun m => ieq n m) = true := h
    rw [SI.onLit_iff (by simp)] at h'
    obtain ⟨m, rfl, h2⟩ := h'
    rw [ieq_eq] at h2
    have : n = m := by simpa using h2
    subst this; rfl
  | .var i, b, h => by
    have h' : (onSome (nth θ i) false fun a => beqSI a b) = true := h
    rw [onSome_iff (by simp), nth_eq] at h'
    obtain ⟨a, h1, h2⟩ := h'
    rw [← beqSI_eq h2]
    exact T.σ i a h1
  | .app f k x y, b, h => by
    cases b <;> simp only [mSI, Bool.and_eq_true, Bool.false_eq_true] at h
    obtain ⟨h1, h2, h3, h4⟩ := h
    rw [beqIOp_eq h1, beqK_eq h2]
    simp only [SI.den, mSI_ok T h3, mSI_ok T h4]
  | .elem s i j, b, h => by
    cases b <;> simp only [mSI, Bool.and_eq_true, Bool.false_eq_true, Nat.beq_eq] at h
    obtain ⟨rfl, h2, rfl⟩ := h
    simp only [SI.den, mSI_ok T h2, T.fs]
  | .len s, b, h => by
    cases b <;> simp only [mSI, Bool.false_eq_true, Nat.beq_eq] at h
    subst h; simp only [SI.den, T.fs]
theorem mSB_ok (T : Tells E E2 L θ φ) {a b : SB} (h : mSB θ φ a b = true) : a.den E2 = b.den E := by
  cases a with
  | lit n =>
    have h' : (b.onLit false fun m => beqB n m) = true := h
    rw [SB.onLit_iff (by simp)] at h'
    obtain ⟨m, rfl, h2⟩ := h'
    rw [beqB_eq h2]; rfl
  | var i =>
    have h' : (onSome (nth φ i) false fun a => beqSB a b) = true := h
    rw [onSome_iff (by simp), nth_eq] at h'
    obtain ⟨a, h1, h2⟩ := h'
    rw [← beqSB_eq h2]
    exact T.β i a h1
  | elem s i j =>
    cases b <;> simp only [mSB, Bool.and_eq_true, Bool.false_eq_true, Nat.beq_eq] at h
    obtain ⟨rfl, h2, rfl⟩ := h
    simp only [SB.den, mSI_ok T h2, T.fs]
theorem mBlkNo_ok (T : Tells E E2 L θ φ) {b b' : Nat} (h : mBlkNo L b b' = true) : E2.ρ b = E.ρ b' := by
  unfold mBlkNo at h
  rw [onSome_iff (by simp), nth_eq] at h
  obtain ⟨c, h1, h2⟩ := h
  rw [Nat.beq_eq] at h2; subst h2
  rw [T.ρ, h1]; rfl
mutual
theorem mAV_ok (T : Tells E E2 L θ φ) : ∀ {a b : AV}, mAV L θ φ a b = true → ∀ v, Rel E b v → Rel E2 a v
  | .int k x, b, h, v, r => by
    cases b <;> simp only [mAV, Bool.and_eq_true, Bool.false_eq_true] at h
    simp only [Rel] at r ⊢; rw [beqK_eq h.1, mSI_ok T h.2]; exact r
  | .bool x, b, h, v, r => by
    cases b <;> simp only [mAV, Bool.false_eq_true] at h
    simp only [Rel] at r ⊢; rw [mSB_ok T h]; exact r
  | .str l, b, h, v, r => by
    cases b <;> simp only [mAV, beqNs_eq, decide_eq_true_eq, Bool.false_eq_true] at h
    subst h; simpa only [Rel] using r
  | .ptr x o, b, h, v, r => by
    cases b <;> simp only [mAV, Bool.and_eq_true, Nat.beq_eq, Bool.false_eq_true] at h
    obtain ⟨h1, rfl⟩ := h
    simp only [Rel] at r ⊢; rw [mBlkNo_ok T h1]; exact r
  | .nil, b, h, v, r => by
    cases b <;> simp only [mAV, Bool.false_eq_true] at h
    simpa only [Rel] using r
  | .slc x o n l e z, b, h, v, r => by
    cases b <;> simp only [mAV, Bool.and_eq_true, Nat.beq_eq, Bool.false_eq_true] at h
    obtain ⟨h1, rfl, rfl, rfl, h2, rfl⟩ := h
    have := beqB_eq h2
    subst this
    simp only [Rel] at r ⊢; rw [mBlkNo_ok T h1]; exact r
  | .etl x o n l, b, h, v, r => by
    cases b <;> simp only [mAV, Bool.and_eq_true, Nat.beq_eq, Bool.false_eq_true] at h
    obtain ⟨h1, rfl, rfl, rfl⟩ := h
    simp only [Rel] at r ⊢; rw [mBlkNo_ok T h1]; exact r
  | .nils, b, h, v, r => by
    cases b <;> simp only [mAV, Bool.false_eq_true] at h
    simpa only [Rel] using r
  | .map x, b, h, v, r => by
    cases b <;> simp only [mAV, Bool.false_eq_true] at h
    simp only [Rel] at r ⊢; rw [mBlkNo_ok T h]; exact r
  | .nilm, b, h, v, r => by
    cases b <;> simp only [mAV, Bool.false_eq_true] at h
    simpa only [Rel] using r
  | .chan x, b, h, v, r => by
    cases b <;> simp only [mAV, Bool.false_eq_true] at h
    simp only [Rel] at r ⊢; rw [mBlkNo_ok T h]; exact r
  | .nilc, b, h, v, r => by
    cases b <;> simp only [mAV, Bool.false_eq_true] at h
    simpa only [Rel] using r
  | .fn f cs, b, h, v, r => by
    cases b <;> simp only [mAV, Bool.and_eq_true, Nat.beq_eq, Bool.false_eq_true] at h
    obtain ⟨rfl, h2⟩ := h
    simp only [Rel] at r ⊢; obtain ⟨vs, e, r⟩ := r; exact ⟨vs, e, mAVs_ok T h2 _ r⟩
  | .nilf, b, h, v, r => by
    cases b <;> simp only [mAV, Bool.false_eq_true] at h
    simpa only [Rel] using r
  | .iface t x, b, h, v, r => by
    cases b <;> simp only [mAV, Bool.and_eq_true, Nat.beq_eq, Bool.false_eq_true] at h
    obtain ⟨rfl, h2⟩ := h
    simp only [Rel] at r ⊢; obtain ⟨u, e, r⟩ := r; exact ⟨u, e, mAV_ok T h2 _ r⟩
  | .nili, b, h, v, r => by
    cases b <;> simp only [mAV, Bool.false_eq_true] at h
    simpa only [Rel] using r
  | .agg cs, b, h, v, r => by
    cases b <;> simp only [mAV, Bool.false_eq_true] at h
    simp only [Rel] at r ⊢; obtain ⟨vs, e, r⟩ := r; exact ⟨vs, e, mAVs_ok T h _ r⟩
  | .tup cs, b, h, v, r => by
    cases b <;> simp only [mAV, Bool.false_eq_true] at h
    simp only [Rel] at r ⊢; obtain ⟨vs, e, r⟩ := r; exact ⟨vs, e, mAVs_ok T h _ r⟩
  | .fsl s, b, h, v, r => by
    cases b <;> simp only [mAV, Nat.beq_eq, Bool.false_eq_true] at h
    subst h; simp only [Rel] at r ⊢; rw [T.fs]; exact r
  | .fpt s i j, b, h, v, r => by
    cases b <;> simp only [mAV, Bool.false_eq_true] at h
theorem mAVs_ok (T : Tells E E2 L θ φ) : ∀ {l m : List AV}, mAVs L θ φ l m = true → ∀ vs, RelL E m vs → RelL E2 l vs
  | [], [], _, vs, r => by simpa only [RelL] using r
  | a :: l, b :: m, h, vs, r => by
    simp only [mAVs, Bool.and_eq_true] at h
    rw [RelL.cons_iff] at r ⊢
    obtain ⟨v, vs', e, r1, r2⟩ := r
    exact ⟨v, vs', e, mAV_ok T h.1 _ r1, mAVs_ok T h.2 _ r2⟩
  | [], _ :: _, h, _, _ => by simp [mAVs] at h
  | _ :: _, [], h, _, _ => by simp [mAVs] at h
end
theorem mAVs_get : ∀ {l m : List AV}, mAVs L θ φ l m = true → l.length = m.length ∧ ∀ (i : Nat) a, l[i]? = some a → ∃ b, m[i]? = some b ∧ mAV L θ φ a b = true
  | [], [], _ => ⟨rfl, fun i a e => by simp at e⟩
  | a :: l, b :: m, h => by
    simp only [mAVs, Bool.and_eq_true] at h
    obtain ⟨k1, k2⟩ := mAVs_get h.2
    refine ⟨by simp [k1], fun i x e => ?_⟩
    cases i with
    | zero => simp at e; subst e; exact ⟨b, rfl, h.1⟩
    | succ i => simpa using k2 i x (by simpa using e)
  | [], _ :: _, h => by simp [mAVs] at h
  | _ :: _, [], h => by simp [mAVs] at h
theorem BTget_leaf (l : List AV) (i : Nat) : (BT.leaf l).get i = l[i]? := by
  show nthA l i = _
  rw [nthA_eq]
theorem BTget_node (m : Nat) (a b : BT) (i : Nat) : (BT.node m a b).get i = if i < m then a.get i else b.get (i - m) := by
  have h : (BT.node m a b).get i = ife (Nat.blt i m) (a.get i) (b.get (Nat.sub i m)) := rfl
  rw [h, ife_eq]; simp only [Nat.blt_eq]; rfl
theorem mBT_get : ∀ {c d : BT}, mBT L θ φ c d = true → c.len = d.len ∧ ∀ i a, c.get i = some a → ∃ b, d.get i = some b ∧ mAV L θ φ a b = true
  | .leaf l, .leaf m, h => by
    have h' : mAVs L θ φ l m = true := h
    obtain ⟨k1, k2⟩ := mAVs_get h'
    refine ⟨?_, fun i a e => ?_⟩
    · show lenAs l = lenAs m
      rw [lenAs_eq, lenAs_eq, k1]
    · rw [BTget_leaf] at e ⊢; exact k2 i a e
  | .node m a b, .node m' a' b', h => by
    simp only [mBT, Bool.and_eq_true, Nat.beq_eq] at h
    obtain ⟨rfl, h1, h2⟩ := h
    obtain ⟨k1, k2⟩ := mBT_get h1
    obtain ⟨k3, k4⟩ := mBT_get h2
    refine ⟨?_, fun i x e => ?_⟩
    · show Nat.add a.len b.len = Nat.add a'.len b'.len
      rw [k1, k3]
    · rw [BTget_node] at e ⊢
      split at e
      · rename_i hi; rw [if_pos hi]; exact k2 i x e
      · rename_i hi; rw [if_neg hi]; exact k4 _ x e
  | .leaf _, .node .., h => by simp [mBT] at h
  | .node .., .leaf _, h => by simp [mBT] at h
theorem mEnts_ok (T : Tells E E2 L θ φ) : ∀ {es es' : List (AV × AV)}, mEnts L θ φ es es' = true → ∀ {M : List MapEntry}, EntriesOk E es' M → EntriesOk E2 es M := fun {es es'} h {M} k => by
  have key : ∀ (es es' : List (AV × AV)), mEnts L θ φ es es' = true → es.length = es'.length ∧ ∀ (i : Nat) p, es[i]? = some p → ∃ q, es'[i]? = some q ∧ mAV L θ φ p.1 q.1 = true ∧ mAV L θ φ p.2 q.2 = true := by
    intro es
    induction es with
    | nil =>
      intro es' h
      cases es' with
      | nil => exact ⟨rfl, fun i p e => by simp at e⟩
      | cons => simp [mEnts] at h
    | cons p es ih =>
      intro es' h
      cases es' with
      | nil => simp [mEnts] at h
      | cons q es' =>
        simp only [mEnts, Bool.and_eq_true] at h
        obtain ⟨k1, k2⟩ := ih es' h.2.2
        refine ⟨by simp [k1], fun i x e => ?_⟩
        cases i with
        | zero => simp at e; subst e; exact ⟨q, rfl, h.1, h.2.1⟩
        | succ i => simpa using k2 i x (by simpa using e)
  obtain ⟨k1, k2⟩ := key es es' h
  refine ⟨by rw [k.len, k1], fun i p e h1 h2 => ?_⟩
  obtain ⟨q, h3, h4, h5⟩ := k2 i p h1
  have := k.each i q e h3 h2
  exact ⟨mAV_ok T h4 _ this.1, mAV_ok T h5 _ this.2⟩
theorem mBlk_ok (T : Tells E E2 L θ φ) {k k' : Blk} (h : mBlk L θ φ k k' = true) {w : World} {r ba en : Nat} (b : BRel E w k' r ba en) : BRel E2 w k r ba en := by
  cases k with
  | cells t ex c =>
    cases k' <;> simp only [mBlk, Bool.and_eq_true, Nat.beq_eq, Bool.false_eq_true] at h
    obtain ⟨rfl, h1, h2⟩ := h
    have := beqB_eq h1
    subst this
    obtain ⟨k1, k2⟩ := mBT_get h2
    obtain ⟨D, h3, h4, h5, h6⟩ := b
    refine ⟨D, h3, h4, fun he => by rw [k1]; exact h5 he, fun i a e => ?_⟩
    obtain ⟨a', e', hm⟩ := k2 i a e
    obtain ⟨v, h7, h8⟩ := h6 i a' e'
    exact ⟨v, h7, mAV_ok T hm _ h8⟩
  | map es =>
    cases k' <;> simp only [mBlk, Bool.false_eq_true] at h
    obtain ⟨M, clk, h1, h2, h3⟩ := b
    exact ⟨M, clk, h1, mEnts_ok T h h2, h3⟩
  | chan n q =>
    cases k' <;> simp only [mBlk, Bool.and_eq_true, Nat.beq_eq, Bool.false_eq_true] at h
    obtain ⟨rfl, h2⟩ := h
    obtain ⟨B, s, q, h1, h3⟩ := b
    exact ⟨B, s, q, h1, mAVs_ok T h2 _ h3⟩
end
/-- A state written out: the slots that matter, the blocks. -/
structure Sp where
  slots : List (Nat × AV)
  blks : List Blk
noncomputable def listTr (i : Nat) : List Blk → Tr Blk
  | [] => .e
  | k :: l => (listTr (i + 1) l).set i (some k)
noncomputable def tauOf : List (Nat × AV) → Tm
  | [] => .e
  | p :: l => (tauOf l).set p.1 (some p.2)
noncomputable def Sp.st (S : Sp) : St := ⟨tauOf S.slots, ⟨listTr 0 S.blks, .e, S.blks.length, 1152921504606846976, none⟩, []⟩
theorem listTr_get : ∀ (l : List Blk) (i b : Nat) (k : Blk), i + l.length < 2 ^ 62 → (listTr i l).get b = some k → ∃ j, b = i + j ∧ l[j]? = some k
  | [], i, b, k, _, h => by cases h
  | x :: l, i, b, k, hb, h => by
    rw [listTr, Tr.get_set _ _ _ _ (by simp at hb; omega)] at h
    split at h
    · rename_i e
      exact ⟨0, by omega, by simpa using h⟩
    · obtain ⟨j, h1, h2⟩ := listTr_get l (i + 1) b k (by simp at hb; omega) h
      exact ⟨j + 1, by omega, by simpa using h2⟩
theorem tauOf_get : ∀ (l : List (Nat × AV)) (t : Nat) (v : AV), (∀ p ∈ l, p.1 < 2 ^ 62) → (tauOf l).get t = some v → (t, v) ∈ l
  | [], t, v, _, h => by cases h
  | p :: l, t, v, hb, h => by
    rw [tauOf, Tr.get_set _ _ _ _ (by have := hb p (by simp); omega)] at h
    split at h
    · rename_i e
      injection h with h
      subst e h
      simp
    · exact List.mem_cons_of_mem _ (tauOf_get l t v (fun q hq => hb q (by simp [hq])) h)
noncomputable def allBlks (L : List Nat) (θ : List SI) (φ : List SB) (H : Heap) : List Nat → List Blk → Bool
  | [], [] => true
  | b :: l, k :: ks => onSome (getK H.tr b) false fun k' => mBlk L θ φ k k' && allBlks L θ φ H l ks
  | _, _ => false
noncomputable def notIn (b : Nat) : List Nat → Bool
  | [] => true
  | c :: l => ife (Nat.beq b c) false (notIn b l)
noncomputable def noTwice : List Nat → Bool
  | [] => true
  | b :: l => ife (notIn b l) (noTwice l) false
noncomputable def allSlots (L : List Nat) (θ : List SI) (φ : List SB) (N : Nat) (τ : Tm) : List (Nat × AV) → Bool
  | [] => true
  | p :: l => ife (Nat.blt p.1 N) (onSome (getA τ p.1) false fun v => mAV L θ φ p.2 v && allSlots L θ φ N τ l) false
noncomputable def matchSp (L : List Nat) (θ : List SI) (φ : List SB) (N : Nat) (S : Sp) (s : St) : Bool :=
  ife (noTwice L) (ife (allBlks L θ φ s.H L S.blks) (ife (allSlots L θ φ N s.τ S.slots) (onList s.ds (Nat.ble S.blks.length 1000000) fun _ _ => false) false) false) false
theorem notIn_ok {b : Nat} : ∀ {l : List Nat}, notIn b l = true → ∀ c ∈ l, b ≠ c
  | c :: l, h, d, hd => by
    have h' : ife (Nat.beq b c) false (notIn b l) = true := h
    rw [ife_no (by simp)] at h'
    rw [List.mem_cons] at hd
    rcases hd with rfl | hd
    · exact beq_false_iff.1 h'.1
    · exact notIn_ok h'.2 d hd
theorem noTwice_ok : ∀ {l : List Nat}, noTwice l = true → ∀ (i j b : Nat), l[i]? = some b → l[j]? = some b → i = j
  | [], _, i, j, b, e, _ => by simp at e
  | c :: l, h, i, j, b, e1, e2 => by
    have h' : ife (notIn c l) (noTwice l) false = true := h
    rw [ife_iff (by simp)] at h'
    cases i with
    | zero =>
      cases j with
      | zero => rfl
      | succ j =>
        simp at e1 e2
        subst e1
        exact absurd rfl (notIn_ok h'.1 c (List.mem_of_getElem? e2))
    | succ i =>
      cases j with
      | zero =>
        simp at e1 e2
        subst e2
        exact absurd rfl (notIn_ok h'.1 c (List.mem_of_getElem? e1))
      | succ j => rw [noTwice_ok h'.2 i j b (by simpa using e1) (by simpa using e2)]
theorem allBlks_ok {L0 : List Nat} {θ : List SI} {φ : List SB} {H : Heap} : ∀ {L : List Nat} {ks : List Blk}, allBlks L0 θ φ H L ks = true → L.length = ks.length ∧ ∀ (i : Nat) k, ks[i]? = some k → ∃ b k', L[i]? = some b ∧ H.tr.get b = some k' ∧ mBlk L0 θ φ k k' = true
  | [], [], _ => ⟨rfl, fun i k e => by simp at e⟩
  | b :: l, k :: ks, h => by
    have h' : (onSome (getK H.tr b) false fun k' => mBlk L0 θ φ k k' && allBlks L0 θ φ H l ks) = true := h
    rw [onSome_iff (by simp), getK_eq] at h'
    obtain ⟨k', h1, h2⟩ := h'
    rw [Bool.and_eq_true] at h2
    obtain ⟨k1, k2⟩ := allBlks_ok h2.2
    refine ⟨by simp [k1], fun i x e => ?_⟩
    cases i with
    | zero => simp at e; subst e; exact ⟨b, k', rfl, h1, h2.1⟩
    | succ i => simpa using k2 i x (by simpa using e)
  | [], _ :: _, h => by simp [allBlks] at h
  | _ :: _, [], h => by simp [allBlks] at h
theorem allSlots_ok {L : List Nat} {θ : List SI} {φ : List SB} {N : Nat} {τ : Tm} : ∀ {l : List (Nat × AV)}, allSlots L θ φ N τ l = true → ∀ p ∈ l, p.1 < N ∧ ∃ v, τ.get p.1 = some v ∧ mAV L θ φ p.2 v = true
  | q :: l, h, p, hp => by
    have h' : ife (Nat.blt q.1 N) (onSome (getA τ q.1) false fun v => mAV L θ φ q.2 v && allSlots L θ φ N τ l) false = true := h
    rw [ife_iff (by simp), onSome_iff (by simp), Nat.blt_eq] at h'
    obtain ⟨h1, v, h2, h3⟩ := h'
    rw [Bool.and_eq_true] at h3
    rw [List.mem_cons] at hp
    rcases hp with rfl | hp
    · exact ⟨h1, v, h2, h3.1⟩
    · exact allSlots_ok h3.2 p hp
/-- The state that is written out is this one, by other numbers. -/
theorem match_ok {X : Nat → Prop} {W0 : World} {C C' : Ctx} {E : Env} {N : Nat} {s : St} {a : Act} {w : World} (hA : ARel X W0 C E N s a w) {L : List Nat} {θ : List SI} {φ : List SB} {S : Sp} {E2 : Env} (T : Tells E E2 L θ φ) (h : matchSp L θ φ N S s = true) (hN : N < 2 ^ 62)
    (hfk : C'.fk = C.fk) (hk : ∀ p ∈ C'.know, p.1.den E2 = p.2) : ARel X W0 C' E2 N S.st a w := by
  unfold matchSp at h
  simp only [ife_iff (show false ≠ true by simp), onList_no (show ∀ (a : AV × List AV) t, (fun _ _ => false) a t ≠ true by simp)] at h
  obtain ⟨h1, h2, h3, h4, h5⟩ := h
  rw [Nat.ble_eq] at h5
  obtain ⟨k1, k2⟩ := allBlks_ok h2
  have k3 := allSlots_ok h3
  have hs := hA.heap
  have hg : ∀ b k, (listTr 0 S.blks).get b = some k → ∃ c k', L[b]? = some c ∧ s.H.tr.get c = some k' ∧ mBlk L θ φ k k' = true := fun b k e => by
    obtain ⟨j, rfl, e'⟩ := listTr_get _ _ _ _ (by omega) e
    rw [Nat.zero_add]; exact k2 j k e'
  have hρ : ∀ b x, E2.ρ b = some x → b < L.length ∧ ∃ c, L[b]? = some c ∧ E.ρ c = some x := fun b x e => by
    have e' : (L[b]?).bind E.ρ = some x := by rw [← T.ρ]; exact e
    rw [Option.bind_eq_some_iff] at e'
    obtain ⟨c, e1, e2⟩ := e'
    exact ⟨(List.getElem?_eq_some_iff.1 e1).1, c, e1, e2⟩
  refine ⟨⟨fun b k e => ?_, fun b k e => (by cases e), fun b b' k k' r ba en r' ba' en' g1 g2 e1 e2 hb => ?_, hs.keep, fun b hb1 hb2 => ?_, ?_, fun b x e => ?_, fun i e => (by cases e), ⟨by rw [T.fs]; exact hs.fk.one, by rw [T.fs, hfk]; exact hs.fk.val, by rw [T.fs, hfk]; exact hs.fk.cell⟩, hk, hs.os, hs.tape, hs.output⟩, ⟨hA.tmps.size, fun t v e => ?_⟩, ?_⟩
  · obtain ⟨c, k', g1, g2, g3⟩ := hg b k e
    obtain ⟨r, ba, en, j1, j2, j3⟩ := hs.own c k' g2
    exact ⟨r, ba, en, by rw [T.ρ, g1]; exact j1, j2, mBlk_ok T g3 j3⟩
  · have get : ∀ b k, (S.st.H).get b = some k → (listTr 0 S.blks).get b = some k := fun b k e => by
      rw [Heap.get_eq] at e
      cases ht : (listTr 0 S.blks).get b with
      | some x =>
        have ht' : S.st.H.tr.get b = some x := ht
        rw [ht'] at e; exact e
      | none =>
        have ht' : S.st.H.tr.get b = none := ht
        rw [ht'] at e; cases e
    obtain ⟨c, q, c1, c2, _⟩ := hg b k (get b k g1)
    obtain ⟨c', q', c1', c2', _⟩ := hg b' k' (get b' k' g2)
    obtain ⟨_, d, d1, d2⟩ := hρ b _ e1
    obtain ⟨_, d', d1', d2'⟩ := hρ b' _ e2
    rw [c1] at d1; injection d1 with d1; subst d1
    rw [c1'] at d1'; injection d1' with d1'; subst d1'
    exact hs.inj c c' q q' _ _ _ _ _ _ (by rw [Heap.get_eq, c2]) (by rw [Heap.get_eq, c2']) d2 d2' (fun e => hb (noTwice_ok h1 b b' c c1 (e ▸ c1')))
  · cases hx : E2.ρ b with
    | none => rfl
    | some x =>
      have := (hρ b x hx).1
      have hb1' : S.blks.length ≤ b := hb1
      omega
  · show 1152921504606846976 ≤ 2 ^ 62; decide
  · have := (hρ b x e).1; omega
  · have hm := tauOf_get S.slots t v (fun p hp => by have := (k3 p hp).1; omega) e
    obtain ⟨_, v', g1, g2⟩ := k3 (t, v) hm
    obtain ⟨u, g3, g4⟩ := hA.tmps.get t v' g1
    exact ⟨u, g3, mAV_ok T g2 u g4⟩
  · have := hA.dfr
    rw [h4] at this
    exact this
end Go.Proofs.YtjebljnifeoiaaaGreat.Vm
