/- The machine's heap, in parts: what a part alone says is kept by a step over another part. No condition but those each theorem names. -/
import Derived.Test.YtjebljnifeoiaaaGreatVmText
namespace Go.Proofs.YtjebljnifeoiaaaGreat.Vm
open Go
set_option linter.unusedVariables false
set_option linter.unusedSimpArgs false
/-- As 'SRel', of blocks told by a relation; an iterator stands in a round. -/
structure FRel (X : Nat → Prop) (W0 : World) (C : Ctx) (E : Env) (G : Nat → Blk → Prop) (Ro : Tr Blk) (it : Option It) (w : World) : Prop where
  own : ∀ b k, G b k → ∃ r ba en, E.ρ b = some (r, ba, en) ∧ ¬ X r ∧ BRel E w k r ba en
  ro : ∀ b k, Ro.get b = some k → ∃ r ba en, E.ρ b = some (r, ba, en) ∧ X r ∧ BRel E W0 k r ba en
  inj : ∀ b b' k k' r ba en r' ba' en', G b k → G b' k' → E.ρ b = some (r, ba, en) → E.ρ b' = some (r', ba', en') → b ≠ b' → r ≠ r'
  injr : ∀ b b' k k' r ba en r' ba' en', Ro.get b = some k → Ro.get b' = some k' → E.ρ b = some (r, ba, en) → E.ρ b' = some (r', ba', en') → b ≠ b' → r ≠ r'
  keep : ∀ r, X r → w.heap[r]? = W0.heap[r]? ∧ r < w.heap.size
  ids : ∀ b x, E.ρ b = some x → b < 2 ^ 62
  it : ∀ i, it = some i → ∃ p, i.e = some p ∧ ItOk X W0 E ⟨.e, .e, 0, 0, none⟩ w i.b i.m (some p)
  fk : FOk X W0 C E
  know : ∀ p ∈ C.know, p.1.den E = p.2
  os : w.os = W0.os
  tape : w.tape = W0.tape
  output : w.output = W0.output
section
variable {X : Nat → Prop} {W0 : World} {C : Ctx} {E E' : Env} {G G' : Nat → Blk → Prop} {Ro : Tr Blk} {it : Option It} {w w' : World} {H H' : Heap}
theorem get_e (b : Nat) : (Tr.e : Tr Blk).get b = none := rfl
theorem SRel.parts (h : SRel X W0 C E H w) (hi : ∀ i, H.it = some i → ∃ p, i.e = some p) : FRel X W0 C E (fun b k => H.tr.get b = some k) H.ro H.it w := by
  have hg : ∀ b k, H.tr.get b = some k → H.get b = some k := fun b k e => by rw [Heap.get_eq, e]
  have hr : ∀ b k, H.ro.get b = some k → H.get b = some k := fun b k e => by
    rw [Heap.get_eq]
    cases ht : H.tr.get b with
    | none => exact e
    | some k' =>
      obtain ⟨r, ba, en, h1, h2, _⟩ := h.own b k' ht
      obtain ⟨r', ba', en', h3, h4, _⟩ := h.ro b k e
      rw [h1] at h3; injection h3 with h3; injection h3 with h3 _; subst h3
      exact absurd h4 h2
  refine ⟨h.own, h.ro, fun b b' k k' r ba en r' ba' en' g1 g2 => h.inj b b' k k' _ _ _ _ _ _ (hg _ _ g1) (hg _ _ g2), fun b b' k k' r ba en r' ba' en' g1 g2 => h.inj b b' k k' _ _ _ _ _ _ (hr _ _ g1) (hr _ _ g2), h.keep, h.ids, fun i e => ?_, h.fk, h.know, h.os, h.tape, h.output⟩
  obtain ⟨p, hp⟩ := hi i e
  have := h.it i e
  rw [hp] at this
  exact ⟨p, hp, this⟩
theorem FRel.mono (h : FRel X W0 C E G Ro it w) (hs : ∀ b k, G' b k → G b k) : FRel X W0 C E G' Ro it w :=
  ⟨fun b k g => h.own b k (hs b k g), h.ro, fun b b' k k' r ba en r' ba' en' g1 g2 => h.inj b b' k k' _ _ _ _ _ _ (hs _ _ g1) (hs _ _ g2), h.injr, h.keep, h.ids, h.it, h.fk, h.know, h.os, h.tape, h.output⟩
theorem FRel.whole (h : FRel X W0 C E G Ro it w) (hs : ∀ b k, H.tr.get b = some k → G b k) (hro : H.ro = Ro ∨ H.ro = .e) (hit : H.it = it ∨ H.it = none) (hf : ∀ b, H.next ≤ b → b < H.lim → E.ρ b = none) (hl : H.lim ≤ 2 ^ 62) : SRel X W0 C E H w := by
  have hr : ∀ b k, H.ro.get b = some k → Ro.get b = some k := fun b k e => by
    rcases hro with h1 | h1
    · rw [← h1]; exact e
    · rw [h1, get_e] at e; cases e
  have hg : ∀ b k, H.get b = some k → G b k ∨ Ro.get b = some k := fun b k e => by
    rw [Heap.get_eq] at e
    cases ht : H.tr.get b with
    | none => rw [ht] at e; exact .inr (hr b k e)
    | some k' => rw [ht] at e; simp at e; subst e; exact .inl (hs b _ ht)
  refine ⟨fun b k e => h.own b k (hs b k e), fun b k e => h.ro b k (hr b k e), fun b b' k k' r ba en r' ba' en' g1 g2 e1 e2 hb => ?_, h.keep, hf, hl, h.ids, fun i e => ?_, h.fk, h.know, h.os, h.tape, h.output⟩
  · have hx : ∀ b k r ba en, Ro.get b = some k → E.ρ b = some (r, ba, en) → X r := fun b k r ba en g e => by
      obtain ⟨r', ba', en', h1, h2, _⟩ := h.ro b k g
      rw [e] at h1; injection h1 with h1; injection h1 with h1 _; subst h1; exact h2
    have hn : ∀ b k r ba en, G b k → E.ρ b = some (r, ba, en) → ¬ X r := fun b k r ba en g e => by
      obtain ⟨r', ba', en', h1, h2, _⟩ := h.own b k g
      rw [e] at h1; injection h1 with h1; injection h1 with h1 _; subst h1; exact h2
    rcases hg _ _ g1 with g1 | g1 <;> rcases hg _ _ g2 with g2 | g2
    · exact h.inj _ _ _ _ _ _ _ _ _ _ g1 g2 e1 e2 hb
    · exact fun e => hn _ _ _ _ _ g1 e1 (e ▸ hx _ _ _ _ _ g2 e2)
    · exact fun e => hn _ _ _ _ _ g2 e2 (e ▸ hx _ _ _ _ _ g1 e1)
    · exact h.injr _ _ _ _ _ _ _ _ _ _ g1 g2 e1 e2 hb
  · rcases hit with h1 | h1
    · obtain ⟨p, hp, h2⟩ := h.it i (h1 ▸ e)
      rw [hp]; exact h2
    · rw [h1] at e; cases e
/-- What a part alone must keep. -/
def Also (X : Nat → Prop) (E : Env) (G : Nat → Blk → Prop) (H : Heap) (r : Nat) : Prop := X r ∨ ∃ b k ba en, G b k ∧ H.tr.get b = none ∧ E.ρ b = some (r, ba, en)
theorem FRel.frame (h : FRel X W0 C E G Ro it w) (hs : ∀ b k, H.tr.get b = some k → G b k) (hro : H.ro = Ro ∨ H.ro = .e) (hit : H.it = it ∨ H.it = none) (hf : ∀ b, H.next ≤ b → b < H.lim → E.ρ b = none) (hl : H.lim ≤ 2 ^ 62) :
    SRel (Also X E G H) w C E H w := by
  have hkeep : ∀ r, Also X E G H r → r < w.heap.size := fun r hr => by
    rcases hr with hr | ⟨b, k, ba, en, g, _, e⟩
    · exact (h.keep r hr).2
    · obtain ⟨r', ba', en', h1, _, h2⟩ := h.own b k g
      rw [e] at h1; injection h1 with h1; injection h1 with h1 _; subst h1; exact h2.lt
  have key : FRel (Also X E G H) w C E (fun b k => H.tr.get b = some k) Ro it w := by
    refine ⟨fun b k e => ?_, fun b k e => ?_, fun b b' k k' r ba en r' ba' en' g1 g2 => h.inj b b' k k' _ _ _ _ _ _ (hs _ _ g1) (hs _ _ g2), h.injr, fun r hr => ⟨rfl, hkeep r hr⟩, h.ids, fun i e => ?_, ?_, h.know, rfl, rfl, rfl⟩
    · obtain ⟨r, ba, en, h1, h2, h3⟩ := h.own b k (hs b k e)
      refine ⟨r, ba, en, h1, ?_, h3⟩
      rintro (hx | ⟨b', k', ba', en', g, hn, e'⟩)
      · exact h2 hx
      · exact h.inj b b' k k' _ _ _ _ _ _ (hs b k e) g h1 e' (fun e2 => by subst e2; rw [e] at hn; cases hn) rfl
    · obtain ⟨r, ba, en, h1, h2, h3⟩ := h.ro b k e
      exact ⟨r, ba, en, h1, .inl h2, h3.world (h.keep r h2).1⟩
    · obtain ⟨p, hp, r, rm, since, seen, s, M, clk, e, h1, h2, h3, h4, h5, h6, h7, h8, h9⟩ := h.it i e
      exact ⟨p, hp, r, rm, since, seen, s, M, clk, e, h1, .inl h2, .inl h3, (h.keep r h2).1.trans h4, (h.keep rm h3).1.trans h5, h6, h7, h8, h9⟩
    · refine ⟨h.fk.one, fun s ks hk => ?_, fun s ks i j o hk hi hj => ?_⟩
      · obtain ⟨h1, h2⟩ := h.fk.val s ks hk
        exact ⟨h1, h2.imp id (fun ⟨h3, h4⟩ => ⟨.inl h3, h4⟩)⟩
      · rw [← h.fk.cell s ks i j o hk hi hj]
        rcases (h.fk.val s ks hk).2 with ⟨_, h3⟩ | ⟨h3, _⟩
        · omega
        · unfold World.cell?; simp only [(h.keep _ h3).1]
  exact key.whole (fun _ _ e => e) hro hit hf hl
theorem FRel.unframe (h : FRel X W0 C E G Ro it w) (hs : SRel (Also X E G H) w C E' H' w') (x : Ext E E') : FRel X W0 C E' (fun b k => H'.tr.get b = some k ∨ (G b k ∧ H.tr.get b = none)) Ro it w' := by
  have hold : ∀ b k r ba en, G b k → E'.ρ b = some (r, ba, en) → E.ρ b = some (r, ba, en) := fun b k r ba en g e => by
    obtain ⟨r', ba', en', h1, _⟩ := h.own b k g
    have := x.ρ _ _ h1
    rw [e] at this; injection this with this; rw [this]; exact h1
  have holdr : ∀ b k r ba en, Ro.get b = some k → E'.ρ b = some (r, ba, en) → E.ρ b = some (r, ba, en) := fun b k r ba en g e => by
    obtain ⟨r', ba', en', h1, _⟩ := h.ro b k g
    have := x.ρ _ _ h1
    rw [e] at this; injection this with this; rw [this]; exact h1
  have hout : ∀ b k r ba en, H'.tr.get b = some k → E'.ρ b = some (r, ba, en) → ¬ Also X E G H r := fun b k r ba en g e => by
    obtain ⟨r', ba', en', h1, h2, _⟩ := hs.own b k g
    rw [e] at h1; injection h1 with h1; injection h1 with h1 _; subst h1; exact h2
  have hget : ∀ b k, H'.tr.get b = some k → H'.get b = some k := fun b k e => by rw [Heap.get_eq, e]
  refine ⟨fun b k g => ?_, fun b k e => ?_, fun b b' k k' r ba en r' ba' en' g1 g2 e1 e2 hb => ?_, fun b b' k k' r ba en r' ba' en' g1 g2 e1 e2 => h.injr b b' k k' _ _ _ _ _ _ g1 g2 (holdr _ _ _ _ _ g1 e1) (holdr _ _ _ _ _ g2 e2), fun r hr => ?_, hs.ids, fun i e => ?_, h.fk.ext x, fun p hp => by rw [Atom.den_ext x]; exact h.know p hp, hs.os.trans h.os, hs.tape.trans h.tape, hs.output.trans h.output⟩
  · rcases g with g | ⟨g, hn⟩
    · obtain ⟨r, ba, en, h1, h2, h3⟩ := hs.own b k g
      exact ⟨r, ba, en, h1, fun hx => h2 (.inl hx), h3⟩
    · obtain ⟨r, ba, en, h1, h2, h3⟩ := h.own b k g
      exact ⟨r, ba, en, x.ρ _ _ h1, h2, (h3.world (hs.keep r (.inr ⟨b, k, ba, en, g, hn, h1⟩)).1).ext x⟩
  · obtain ⟨r, ba, en, h1, h2, h3⟩ := h.ro b k e
    exact ⟨r, ba, en, x.ρ _ _ h1, h2, h3.ext x⟩
  · rcases g1 with g1 | ⟨g1, n1⟩ <;> rcases g2 with g2 | ⟨g2, n2⟩
    · exact hs.inj _ _ _ _ _ _ _ _ _ _ (hget _ _ g1) (hget _ _ g2) e1 e2 hb
    · exact fun e => hout _ _ _ _ _ g1 e1 (e ▸ .inr ⟨b', k', _, _, g2, n2, hold _ _ _ _ _ g2 e2⟩)
    · exact fun e => hout _ _ _ _ _ g2 e2 (e ▸ .inr ⟨b, k, _, _, g1, n1, hold _ _ _ _ _ g1 e1⟩)
    · exact h.inj _ _ _ _ _ _ _ _ _ _ g1 g2 (hold _ _ _ _ _ g1 e1) (hold _ _ _ _ _ g2 e2) hb
  · exact ⟨(hs.keep r (.inl hr)).1.trans (h.keep r hr).1, (hs.keep r (.inl hr)).2⟩
  · obtain ⟨p, hp, r, rm, since, seen, s, M, clk, e, h1, h2, h3, h4, h5, h6, h7, h8, h9⟩ := h.it i e
    exact ⟨p, hp, r, rm, since, seen, s, M, clk, e, x.ρ _ _ h1, h2, h3, h4, h5, h6, h7, h8.ext x, h9.ext x⟩
/-- What is framed out stands under no number of the part's. -/
theorem FRel.apart (h : FRel X W0 C E G Ro it w) (hs : SRel (Also X E G H) w C E' H' w') (x : Ext E E') {b : Nat} {k : Blk} (g : G b k) (hn : H.tr.get b = none) : H'.tr.get b = none := by
  cases ht : H'.tr.get b with
  | none => rfl
  | some k' =>
    obtain ⟨r, ba, en, h1, h2, _⟩ := hs.own b k' ht
    obtain ⟨r', ba', en', h3, _⟩ := h.own b k g
    have h4 := x.ρ _ _ h3
    rw [h1] at h4; injection h4 with h4; injection h4 with h4 h5; injection h5 with h5 h6; subst h4 h5 h6
    exact absurd (.inr ⟨b, k, _, _, g, hn, h3⟩) h2
theorem FRel.drew (h : FRel X W0 C E G Ro it w) : FRel X W0 C E G Ro it w.drew :=
  ⟨fun b k g => let ⟨r, ba, en, h1, h2, h3⟩ := h.own b k g; ⟨r, ba, en, h1, h2, h3.world rfl⟩, h.ro, h.inj, h.injr, h.keep, h.ids, h.it, h.fk, h.know, h.os, h.tape, h.output⟩
end
end Go.Proofs.YtjebljnifeoiaaaGreat.Vm
