/- What a call leaves alone: all blocks but those that are told. -/
import Derived.Test.YtkaopdpdfbkchaaJoinP
import Derived.Test.YtkaopdpdfbkchaaShpA
namespace Go.Proofs.Ytkaopdpdfbkchaa
open Go.RowKit Plain
set_option linter.unusedVariables false
set_option linter.unusedSimpArgs false
/-- all blocks but those of X lie as they lay -/
structure KeepX (X : Nat → Prop) (w w' : World) : Prop where
  os : w'.os = w.os
  tape : w'.tape = w.tape
  output : w'.output = w.output
  size : w.heap.size ≤ w'.heap.size
  block : ∀ i, i < w.heap.size → ¬ X i → w'.heap[i]? = w.heap[i]?
theorem KeepX.refl (X : Nat → Prop) (w : World) : KeepX X w w := ⟨rfl, rfl, rfl, Nat.le_refl _, fun _ _ _ => rfl⟩
theorem KeepX.of_below {w w' : World} (X : Nat → Prop) (h : Below w.heap.size w w') : KeepX X w w' := ⟨h.os, h.tape, h.output, h.size, fun i hi _ => h.block i hi⟩
theorem KeepX.of_grown {w w' : World} {g : Nat} (h : w.grownBy w' (some g)) : KeepX (fun i => i = g) w w' := ⟨h.os, h.tape, h.output, h.size, fun i hi hx => h.block i hi (fun e => hx (Option.some.inj e))⟩
theorem KeepX.trans {X Y : Nat → Prop} {a b c : World} (h : KeepX X a b) (k : KeepX Y b c) : KeepX (fun i => X i ∨ Y i) a c :=
  ⟨k.os.trans h.os, k.tape.trans h.tape, k.output.trans h.output, Nat.le_trans h.size k.size, fun i hi hx => (k.block i (Nat.lt_of_lt_of_le hi h.size) (fun e => hx (.inr e))).trans (h.block i hi (fun e => hx (.inl e)))⟩
theorem KeepX.mono {X Y : Nat → Prop} {w w' : World} (h : KeepX X w w') (hm : ∀ i, i < w.heap.size → X i → Y i) : KeepX Y w w' := ⟨h.os, h.tape, h.output, h.size, fun i hi hy => h.block i hi (fun hx => hy (hm i hi hx))⟩
theorem KeepX.drewN {X : Nat → Prop} {w w' : World} (h : KeepX X w w') (n : Nat) : KeepX X w (w'.drewN n) := by
  have hb := below_drewN (Below.refl w'.heap.size w') n
  exact ⟨hb.os.trans h.os, hb.tape.trans h.tape, hb.output.trans h.output, Nat.le_trans h.size hb.size, fun i hi hx => (hb.block i (Nat.lt_of_lt_of_le hi h.size)).trans (h.block i hi hx)⟩
/-- from an older world on -/
theorem KeepX.from {X : Nat → Prop} {a b c : World} (h : Below a.heap.size a b) (k : KeepX X b c) : KeepX X a c :=
  ⟨k.os.trans h.os, k.tape.trans h.tape, k.output.trans h.output, Nat.le_trans h.size k.size, fun i hi hx => (k.block i (Nat.lt_of_lt_of_le hi h.size) hx).trans (h.block i hi)⟩
theorem KeepX.below {X : Nat → Prop} {w0 w w' : World} (h : KeepX X w w') (hb : Below w0.heap.size w0 w) (hx : ∀ i, X i → w0.heap.size ≤ i) : Below w0.heap.size w0 w' :=
  ⟨h.os.trans hb.os, h.tape.trans hb.tape, h.output.trans hb.output, Nat.le_trans hb.size h.size, fun i hi => (h.block i (Nat.lt_of_lt_of_le hi hb.size) (fun e => by have := hx i e; omega)).trans (hb.block i hi)⟩
theorem KeepX.cell {X : Nat → Prop} {w w' : World} (h : KeepX X w w') {g o : Nat} {v : Value} (hc : w.cell? ⟨g, o, none⟩ = some v) (hx : ¬ X g) : w'.cell? ⟨g, o, none⟩ = some v := by
  have hl := block_lt_of_cell hc
  rw [← hc]
  simp only [World.cell?, h.block g hl hx]
theorem KeepX.heap {X : Nat → Prop} {w w' : World} (h : KeepX X w w') {g : Nat} {o : Obj} (hc : w.heap[g]? = some o) (hx : ¬ X g) : w'.heap[g]? = some o := (h.block g (Array.getElem?_eq_some_iff.1 hc).1 hx).trans hc
theorem KeepX.fa {X : Nat → Prop} {w w' : World} (h : KeepX X w w') {b o c n : Nat} {f : Nat → Int} (hf : FA w b o c n f) (hx : ¬ X b) : FA w' b o c n f := ⟨hf.nc, fun i hi => h.cell (hf.cl i hi) hx⟩
theorem KeepX.own {X : Nat → Prop} {w w' : World} (h : KeepX X w w') {e : TypeId} {base g n cap : Nat} {f : Nat → Int} (ho : OwnE e w base g n cap f) (hx : ¬ X g) : OwnE e w' base g n cap f := by
  rcases ho.2 with ⟨h', _⟩ | ⟨g', cap', cur, h', hb, hg, hr⟩
  · cases h'
  · simp only [Value.slice.injEq, Option.some.injEq, Addr.mk.injEq, and_true, true_and] at h'
    obtain ⟨rfl, rfl⟩ := h'
    exact ⟨ho.1, .inr ⟨_, _, cur, rfl, hb, h.heap hg hx, hr⟩⟩
end Go.Proofs.Ytkaopdpdfbkchaa
