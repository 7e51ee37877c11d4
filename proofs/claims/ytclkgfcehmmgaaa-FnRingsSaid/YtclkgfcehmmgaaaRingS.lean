/- The way back along the arcs that raised: each ring on it rises, in plain numbers: one step of the search keeps that. No program stands here. -/
import Derived.Test.YtclkgfcehmmgaaaRingB
namespace Go.Proofs.Ytclkgfcehmmgaaa.Plain

/-- the sum of what the first d arcs of the way back rise -/
def wayW (f : Nat → Nat) (w : Nat → Int) (v : Nat) : Nat → Int
  | 0 => 0
  | d + 1 => wayW f w v d + w (itU f v d)
/-- how often the way back is at a node, in d steps -/
def wayN (f : Nat → Nat) (v0 v : Nat) : Nat → Nat
  | 0 => 0
  | d + 1 => wayN f v0 v d + if itU f v d = v0 then 1 else 0
theorem tele {f : Nat → Nat} {w t : Nat → Int} {told : Nat → Prop} {v0 : Nat} (h : ∀ x, told x → x ≠ v0 → t x ≤ t (f x) + w x) (h0 : t v0 < t (f v0) + w v0) (v d : Nat) (hd : ∀ s, s < d → told (itU f v s)) :
    t v + wayN f v0 v d ≤ t (itU f v d) + wayW f w v d := by
  induction d with
  | zero => simp [wayN, wayW, itU]
  | succ d ih =>
    have i1 := ih (fun s hs => hd s (by omega))
    rw [wayN, wayW, itU]
    by_cases e : itU f v d = v0
    · rw [if_pos e]
      rw [e] at i1 ⊢
      push_cast
      omega
    · have i2 := h _ (hd d (by omega)) e
      rw [if_neg e]
      push_cast
      omega
theorem wayN_pos {f : Nat → Nat} {v0 v d : Nat} (h : ∃ s, s < d ∧ itU f v s = v0) : 1 ≤ wayN f v0 v d := by
  induction d with
  | zero => obtain ⟨s, hs, _⟩ := h; omega
  | succ d ih =>
    obtain ⟨s, hs, e⟩ := h
    rw [wayN]
    by_cases hsd : s = d
    · subst hsd; rw [if_pos e]; omega
    · have := ih ⟨s, by omega, e⟩
      omega
/-- the search's state, as functions: what is kept -/
structure WayInv (f : Nat → Nat) (w t : Nat → Int) (told : Nat → Prop) : Prop where
  le : ∀ x, told x → t x ≤ t (f x) + w x
  pos : ∀ v d, 1 ≤ d → (∀ s, s < d → told (itU f v s)) → itU f v d = v → 0 < wayW f w v d
theorem it_same {f g : Nat → Nat} {v0 v : Nat} (hfg : ∀ x, x ≠ v0 → g x = f x) (d : Nat) (h : ∀ s, s < d → itU g v s ≠ v0) : ∀ s, s ≤ d → itU g v s = itU f v s := by
  intro s
  induction s with
  | zero => intro _; rfl
  | succ s ih =>
    intro hs
    have e := ih (by omega)
    rw [itU, itU, ← e]
    exact hfg _ (h s (by omega))
theorem way_same {f g : Nat → Nat} {w w' : Nat → Int} {v0 v : Nat} (hfg : ∀ x, x ≠ v0 → g x = f x) (hw : ∀ x, x ≠ v0 → w' x = w x) (d : Nat) (h : ∀ s, s < d → itU g v s ≠ v0) : wayW g w' v d = wayW f w v d := by
  induction d with
  | zero => rfl
  | succ d ih =>
    rw [wayW, wayW, ih (fun s hs => h s (by omega)), hw _ (h d (by omega)), it_same hfg d (fun s hs => h s (by omega)) d (Nat.le_refl _)]
/-- an arc that raises a node -/
theorem way_step {f g : Nat → Nat} {w w' t t' : Nat → Int} {told told' : Nat → Prop} {v0 : Nat} (I : WayInv f w t told) (hfg : ∀ x, x ≠ v0 → g x = f x) (hw : ∀ x, x ≠ v0 → w' x = w x) (ht : ∀ x, x ≠ v0 → t' x = t x)
    (hto : ∀ x, told' x → x ≠ v0 → told x) (hup : t v0 < t (g v0) + w' v0) (hset : t' v0 = t (g v0) + w' v0) : WayInv g w' t' told' := by
  have mono : ∀ x, t x ≤ t' x := by
    intro x
    by_cases e : x = v0
    · rw [e, hset]; omega
    · rw [ht x e]; exact Int.le_refl _
  refine ⟨fun x hx => ?_, fun v d hd1 hd hc => ?_⟩
  · by_cases e : x = v0
    · subst e
      rw [hset]
      have := mono (g x)
      omega
    · rw [ht x e, hw x e, hfg x e]
      have := I.le x (hto x hx e)
      have := mono (f x)
      omega
  · by_cases hx : ∃ s, s < d ∧ itU g v s = v0
    · have h1 := tele (f := g) (w := w') (t := t) (told := told') (v0 := v0) (fun x hx e => by rw [hfg x e, hw x e]; exact I.le x (hto x hx e)) hup v d hd
      have h2 := wayN_pos hx
      rw [hc] at h1
      omega
    · have hne : ∀ s, s < d → itU g v s ≠ v0 := fun s hs e => hx ⟨s, hs, e⟩
      have hs := it_same hfg d hne
      rw [way_same hfg hw d hne]
      exact I.pos v d hd1 (fun s hs' => by rw [← hs s (by omega)]; exact hto _ (hd s hs') (hne s hs')) (by rw [← hs d (Nat.le_refl _)]; exact hc)
end Go.Proofs.Ytclkgfcehmmgaaa.Plain
