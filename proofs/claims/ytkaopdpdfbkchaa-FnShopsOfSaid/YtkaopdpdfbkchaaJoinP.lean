/- Posts of a region that draws its order: one form for all orders; a row that is made within it. -/
import Derived.Test.YtkaopdpdfbkchaaProg
import Derived.Test.YtkaopdpdfbkchaaLinA
import Derived.Deep.OwnRows
namespace Go.Proofs.Ytkaopdpdfbkchaa
open Go.RowKit Plain
set_option linter.unusedVariables false
set_option linter.unusedSimpArgs false
/-- whatever order was taken: the frame, and what is known of the world -/
def ExPost0 (X : World → Prop) (mk : Act) : Exit → Act → World → Prop
  | .normal, a', w' => a' = mk ∧ X w'
  | _, _, _ => False
theorem ExPost0.imp {X : World → Prop} {mk : Act} {Q : Exit → Act → World → Prop} (h : ∀ w', X w' → Q .normal mk w') : ∀ (e : Exit) (a' : Act) (w' : World), ExPost0 X mk e a' w' → Q e a' w' := by
  intro e a' w' hp
  cases e
  all_goals first
    | exact False.elim hp
    | (obtain ⟨rfl, hx⟩ := hp; exact h _ hx)
def ExPost2 (X : Nat → Nat → World → Prop) (mk : Nat → Nat → Act) : Exit → Act → World → Prop
  | .normal, a', w' => ∃ g1 g2, a' = mk g1 g2 ∧ X g1 g2 w'
  | _, _, _ => False
theorem ExPost2.imp {X : Nat → Nat → World → Prop} {mk : Nat → Nat → Act} {Q : Exit → Act → World → Prop} (h : ∀ g1 g2 w', X g1 g2 w' → Q .normal (mk g1 g2) w') : ∀ (e : Exit) (a' : Act) (w' : World), ExPost2 X mk e a' w' → Q e a' w' := by
  intro e a' w' hp
  cases e
  all_goals first
    | exact False.elim hp
    | (obtain ⟨g1, g2, rfl, hx⟩ := hp; exact h _ _ _ hx)
def ExPost3 (X : Nat → Nat → Nat → World → Prop) (mk : Nat → Nat → Nat → Act) : Exit → Act → World → Prop
  | .normal, a', w' => ∃ g1 g2 g3, a' = mk g1 g2 g3 ∧ X g1 g2 g3 w'
  | _, _, _ => False
theorem ExPost3.imp {X : Nat → Nat → Nat → World → Prop} {mk : Nat → Nat → Nat → Act} {Q : Exit → Act → World → Prop} (h : ∀ g1 g2 g3 w', X g1 g2 g3 w' → Q .normal (mk g1 g2 g3) w') : ∀ (e : Exit) (a' : Act) (w' : World), ExPost3 X mk e a' w' → Q e a' w' := by
  intro e a' w' hp
  cases e
  all_goals first
    | exact False.elim hp
    | (obtain ⟨g1, g2, g3, rfl, hx⟩ := hp; exact h _ _ _ _ hx)
def ExPost7 (X : Nat → Nat → Nat → Nat → Nat → Nat → Nat → World → Prop) (mk : Nat → Nat → Nat → Nat → Nat → Nat → Nat → Act) : Exit → Act → World → Prop
  | .normal, a', w' => ∃ y0 y1 y2 y3 y4 y5 y6, a' = mk y0 y1 y2 y3 y4 y5 y6 ∧ X y0 y1 y2 y3 y4 y5 y6 w'
  | _, _, _ => False
theorem ExPost7.imp {X : Nat → Nat → Nat → Nat → Nat → Nat → Nat → World → Prop} {mk : Nat → Nat → Nat → Nat → Nat → Nat → Nat → Act} {Q : Exit → Act → World → Prop} (h : ∀ y0 y1 y2 y3 y4 y5 y6 w', X y0 y1 y2 y3 y4 y5 y6 w' → Q .normal (mk y0 y1 y2 y3 y4 y5 y6) w') : ∀ (e : Exit) (a' : Act) (w' : World), ExPost7 X mk e a' w' → Q e a' w' := by
  intro e a' w' hp
  cases e
  all_goals first
    | exact False.elim hp
    | (obtain ⟨y0, y1, y2, y3, y4, y5, y6, rfl, hx⟩ := hp; exact h _ _ _ _ _ _ _ _ hx)
/-- a row of int of the call's own that holds a function -/
abbrev OwnE (e : TypeId) (w : World) (base g n cap : Nat) (f : Nat → Int) : Prop := w.ownsRow base e 1 (.slice (some ⟨g, 0, none⟩) n cap) n ((fL n f).map vi)
theorem OwnE.at {e : TypeId} {w : World} {base g n cap : Nat} {f : Nat → Int} (h : OwnE e w base g n cap f) {i : Nat} (hi : i < n) : w.cell? ⟨g, i, none⟩ = some (.int .i64 (f i)) := by
  rw [h.cellAt i (by omega), List.getElem?_map, fL_get f hi]; rfl
theorem OwnE.set {e : TypeId} {w : World} {base g n cap i : Nat} {f : Nat → Int} {x : Int} (h : w.ownsRow base e 1 (.slice (some ⟨g, 0, none⟩) n cap) n (((fL n f).map vi).set i (.int .i64 x))) (hi : i < n) : OwnE e w base g n cap (fun m => if m = i then x else f m) := by
  unfold OwnE
  rw [← fL_set f x hi, List.map_set]; exact h
theorem OwnE.same {e : TypeId} {w : World} {base g n cap : Nat} {f f' : Nat → Int} (h : OwnE e w base g n cap f) (he : ∀ i, i < n → f i = f' i) : OwnE e w base g n cap f' := by
  unfold OwnE at *
  rw [← fL_same he]; exact h
theorem OwnE.kept {e : TypeId} {w w' : World} {base g n cap k : Nat} {f : Nat → Int} (h : OwnE e w base g n cap f) (hg : w.grownBy w' (some k)) (hne : g ≠ k) : OwnE e w' base g n cap f :=
  World.ownsRow.kept h hg (.inr (by intro e; exact hne (Option.some.inj e)))
/-- a store of a cell -/
theorem OwnE.store {e : TypeId} {w : World} {base g n cap i : Nat} {f : Nat → Int} (h : OwnE e w base g n cap f) (hi : i < n) (x : Int) : OwnE e (w.setCell ⟨g, i, none⟩ (.int .i64 x)) base g n cap (fun m => if m = i then x else f m) ∧ w.grownBy (w.setCell ⟨g, i, none⟩ (.int .i64 x)) (some g) :=
  ⟨OwnE.set (h.stored i (.int .i64 x)).1 hi, (h.stored i (.int .i64 x)).2⟩
/-- a made row of zeros -/
theorem OwnE.made (e : TypeId) (w : World) (n base : Nat) (hb : base ≤ w.heap.size) (hn : n ≤ 1048576) : OwnE e (w.alloc (.cells (madeCells #[.int .i64 0] n) e)) base w.heap.size n n (fun _ => 0) := by
  have e1 : (madeCells #[Value.int .i64 0] n).toList = List.replicate n (.int .i64 0) := by
    have h := made_one (.int .i64 0) n rfl
    rw [Nat.mul_one] at h
    exact h
  have h := World.ownsRow_lit (base := base) (size := 1) (e := e) w (madeCells #[.int .i64 0] n) n hb (by unfold maxLen; omega) (by
    rw [← Array.length_toList, e1]; simp)
  unfold OwnE
  rw [fL_const, List.map_replicate, ← show (madeCells #[Value.int .i64 0] n).toList = List.replicate n (vi 0) from e1]
  exact h
theorem run_mk (T e : TypeId) (ht : Try.prog.underlying T = some (.slice e)) (hi : (Try.prog.info? e).map (fun i => (i.zero, i.size, i.bytes)) = some (some (.int .i64 0), 1, 8)) (n : Nat) (hn : n ≤ 1048576) (W : World) :
    (Instr.makeSlice T (.int .i64 (n : Int)) (.int .i64 (n : Int))).run Try.prog W = .ok (.slice (some ⟨W.heap.size, 0, none⟩) n n) (W.alloc (.cells (madeCells #[.int .i64 0] n) e)) :=
  run_make_row' T e (.int .i64 0) 8 ht hi rfl .i64 .i64 n (by omega) (by omega) W
theorem OwnE.two (e1 e2 : TypeId) (w : World) (n m base : Nat) (hb : base ≤ w.heap.size) (hn : n ≤ 1048576) (hm : m ≤ 1048576) :
    OwnE e1 ((w.alloc (.cells (madeCells #[.int .i64 0] n) e1)).alloc (.cells (madeCells #[.int .i64 0] m) e2)) base w.heap.size n n (fun _ => 0) ∧ OwnE e2 ((w.alloc (.cells (madeCells #[.int .i64 0] n) e1)).alloc (.cells (madeCells #[.int .i64 0] m) e2)) base (w.heap.size + 1) m m (fun _ => 0) ∧ Below w.heap.size w ((w.alloc (.cells (madeCells #[.int .i64 0] n) e1)).alloc (.cells (madeCells #[.int .i64 0] m) e2)) := by
  have h1 := OwnE.made e1 w n base hb hn
  have h2 := OwnE.made e2 (w.alloc (.cells (madeCells #[.int .i64 0] n) e1)) m base (by simp; omega) hm
  have hs : (w.alloc (.cells (madeCells #[.int .i64 0] n) e1)).heap.size = w.heap.size + 1 := by simp
  rw [hs] at h2
  exact ⟨h1.alloc _, h2, ((Below.refl _ _).alloc (Nat.le_refl _) _).alloc (by simp) _⟩
theorem OwnE.three (e1 e2 e3 : TypeId) (w : World) (n1 n2 n3 base : Nat) (hb : base ≤ w.heap.size) (h1 : n1 ≤ 1048576) (h2 : n2 ≤ 1048576) (h3 : n3 ≤ 1048576) :
    OwnE e1 (((w.alloc (.cells (madeCells #[.int .i64 0] n1) e1)).alloc (.cells (madeCells #[.int .i64 0] n2) e2)).alloc (.cells (madeCells #[.int .i64 0] n3) e3)) base w.heap.size n1 n1 (fun _ => 0) ∧ OwnE e2 (((w.alloc (.cells (madeCells #[.int .i64 0] n1) e1)).alloc (.cells (madeCells #[.int .i64 0] n2) e2)).alloc (.cells (madeCells #[.int .i64 0] n3) e3)) base (w.heap.size + 1) n2 n2 (fun _ => 0) ∧ OwnE e3 (((w.alloc (.cells (madeCells #[.int .i64 0] n1) e1)).alloc (.cells (madeCells #[.int .i64 0] n2) e2)).alloc (.cells (madeCells #[.int .i64 0] n3) e3)) base (w.heap.size + 1 + 1) n3 n3 (fun _ => 0) ∧ Below w.heap.size w (((w.alloc (.cells (madeCells #[.int .i64 0] n1) e1)).alloc (.cells (madeCells #[.int .i64 0] n2) e2)).alloc (.cells (madeCells #[.int .i64 0] n3) e3)) := by
  obtain ⟨k1, k2, k3⟩ := OwnE.two e1 e2 w n1 n2 base hb h1 h2
  have k4 := OwnE.made e3 ((w.alloc (.cells (madeCells #[.int .i64 0] n1) e1)).alloc (.cells (madeCells #[.int .i64 0] n2) e2)) n3 base (by simp; omega) h3
  have hs : ((w.alloc (.cells (madeCells #[.int .i64 0] n1) e1)).alloc (.cells (madeCells #[.int .i64 0] n2) e2)).heap.size = w.heap.size + 1 + 1 := by simp
  rw [hs] at k4
  exact ⟨k1.alloc _, k2.alloc _, k4, k3.alloc (by simp; omega) _⟩
end Go.Proofs.Ytkaopdpdfbkchaa
