/- The state of a shop's run: made, and one turn: contracts. -/
import Derived.Test.YtkaopdpdfbkchaaShpF
import Derived.RangeFuncCalls
import Derived.Test.YtkaopdpdfbkchaaStoreBox
namespace Go.Proofs.Ytkaopdpdfbkchaa
open Go.RowKit Plain
set_option linter.unusedVariables false
set_option linter.unusedSimpArgs false
attribute [local go_sem ↓] Go.wp_at_zero Go.wp_at_succ
/-- where the state of a run lies -/
structure StK where
  b : Nat
  c : Nat
  b2 : Nat
  c2 : Nat
  m : Nat
  n : Nat
  s : Nat
  gN : Nat
  gJ : Nat
  gF : Nat
  cN : Nat
  cJ : Nat
  cF : Nat
/-- its value -/
def StK.V (k : StK) : Value := .agg #[.slice (some ⟨k.b, 0, none⟩) k.s k.c, .int .i64 k.n, .int .i64 k.m, .slice (some ⟨k.b2, 0, none⟩) k.s k.c2, .slice (some ⟨k.gN, 0, none⟩) k.n k.cN, .slice (some ⟨k.gJ, 0, none⟩) k.n k.cJ, .slice (some ⟨k.gF, 0, none⟩) k.m k.cF]
/-- its rows -/
structure StO (k : StK) (w : World) (base : Nat) (N J F : Nat → Nat) : Prop where
  oN : OwnE 3 w base k.gN k.n k.cN (natF N)
  oJ : OwnE 2 w base k.gJ k.n k.cJ (natF J)
  oF : OwnE 2 w base k.gF k.m k.cF (natF F)
  n1 : k.gN ≠ k.gJ
  n2 : k.gN ≠ k.gF
  n3 : k.gJ ≠ k.gF
theorem info_intI : (Try.prog.info? 3).map (fun i => (i.zero, i.size, i.bytes)) = some (some (.int .i64 0), 1, 8) := by kernel_rfl
theorem size_steps : (Try.prog.info? 54).map (·.size) = some 7 := by kernel_rfl
theorem set7_cell {w : World} {g k o : Nat} {a0 a1 a2 a3 a4 a5 a6 : Value} (h : k ≠ g) : (((((((w.setCell ⟨g, 0, none⟩ a0).setCell ⟨g, 1, none⟩ a1).setCell ⟨g, 2, none⟩ a2).setCell ⟨g, 3, none⟩ a3).setCell ⟨g, 4, none⟩ a4).setCell ⟨g, 5, none⟩ a5).setCell ⟨g, 6, none⟩ a6).cell? ⟨k, o, none⟩ = w.cell? ⟨k, o, none⟩ := by
  iterate 7 rw [World.cell?_setCell_other _ _ _ _ (fun e => h (congrArg Addr.block e).symm)]
theorem set7_heap {w : World} {g t : Nat} {x0 x1 x2 x3 x4 x5 x6 a0 a1 a2 a3 a4 a5 a6 : Value} (h : w.heap[g]? = some (.cells #[x0, x1, x2, x3, x4, x5, x6] t (0, 0))) : (((((((w.setCell ⟨g, 0, none⟩ a0).setCell ⟨g, 1, none⟩ a1).setCell ⟨g, 2, none⟩ a2).setCell ⟨g, 3, none⟩ a3).setCell ⟨g, 4, none⟩ a4).setCell ⟨g, 5, none⟩ a5).setCell ⟨g, 6, none⟩ a6).heap[g]? = some (.cells #[a0, a1, a2, a3, a4, a5, a6] t (0, 0)) := by
  have h1 := heap_setCell_same w g 0 _ t a0 h
  have h2 := heap_setCell_same _ g 1 _ t a1 h1
  have h3 := heap_setCell_same _ g 2 _ t a2 h2
  have h4 := heap_setCell_same _ g 3 _ t a3 h3
  have h5 := heap_setCell_same _ g 4 _ t a4 h4
  have h6 := heap_setCell_same _ g 5 _ t a5 h5
  have h7 := heap_setCell_same _ g 6 _ t a6 h6
  simpa using h7
theorem grown_set7 {w : World} {g : Nat} {a0 a1 a2 a3 a4 a5 a6 : Value} : w.grownBy (((((((w.setCell ⟨g, 0, none⟩ a0).setCell ⟨g, 1, none⟩ a1).setCell ⟨g, 2, none⟩ a2).setCell ⟨g, 3, none⟩ a3).setCell ⟨g, 4, none⟩ a4).setCell ⟨g, 5, none⟩ a5).setCell ⟨g, 6, none⟩ a6) (some g) :=
  ((((((grown_setCell w g 0 a0).trans (grown_setCell _ g 1 a1)).trans (grown_setCell _ g 2 a2)).trans (grown_setCell _ g 3 a3)).trans (grown_setCell _ g 4 a4)).trans (grown_setCell _ g 5 a5)).trans (grown_setCell _ g 6 a6)
theorem made_st {w0 w1 : World} {g4 t : Nat} {x0 x1 x2 x3 x4 x5 x6 : Value} (hB : Below w0.heap.size w0 w1) (h4 : w1.heap[g4]? = some (.cells #[x0, x1, x2, x3, x4, x5, x6] t (0, 0))) (hsz : w1.heap.size = g4 + 1) (hg : w0.heap.size ≤ g4) (e1 e2 e3 : TypeId) (n1 n2 n3 : Nat) (l1 : n1 ≤ 24) (l2 : n2 ≤ 24) (l3 : n3 ≤ 24) (a0 a1 a2 a3 a4 a5 a6 : Value) :
    ((((((((((w1.setCell ⟨g4, 0, none⟩ a0).setCell ⟨g4, 1, none⟩ a1).setCell ⟨g4, 2, none⟩ a2).setCell ⟨g4, 3, none⟩ a3).setCell ⟨g4, 4, none⟩ a4).setCell ⟨g4, 5, none⟩ a5).setCell ⟨g4, 6, none⟩ a6).alloc (.cells (madeCells #[.int .i64 0] n1) e1)).alloc (.cells (madeCells #[.int .i64 0] n2) e2)).alloc (.cells (madeCells #[.int .i64 0] n3) e3)).drew.heap[g4]? = some (.cells #[a0, a1, a2, a3, a4, a5, a6] t (0, 0)) ∧ OwnE e1 ((((((((((w1.setCell ⟨g4, 0, none⟩ a0).setCell ⟨g4, 1, none⟩ a1).setCell ⟨g4, 2, none⟩ a2).setCell ⟨g4, 3, none⟩ a3).setCell ⟨g4, 4, none⟩ a4).setCell ⟨g4, 5, none⟩ a5).setCell ⟨g4, 6, none⟩ a6).alloc (.cells (madeCells #[.int .i64 0] n1) e1)).alloc (.cells (madeCells #[.int .i64 0] n2) e2)).alloc (.cells (madeCells #[.int .i64 0] n3) e3)).drew w0.heap.size (g4 + 1) n1 n1 (fun _ => 0) ∧ OwnE e2 ((((((((((w1.setCell ⟨g4, 0, none⟩ a0).setCell ⟨g4, 1, none⟩ a1).setCell ⟨g4, 2, none⟩ a2).setCell ⟨g4, 3, none⟩ a3).setCell ⟨g4, 4, none⟩ a4).setCell ⟨g4, 5, none⟩ a5).setCell ⟨g4, 6, none⟩ a6).alloc (.cells (madeCells #[.int .i64 0] n1) e1)).alloc (.cells (madeCells #[.int .i64 0] n2) e2)).alloc (.cells (madeCells #[.int .i64 0] n3) e3)).drew w0.heap.size (g4 + 1 + 1) n2 n2 (fun _ => 0) ∧ OwnE e3 ((((((((((w1.setCell ⟨g4, 0, none⟩ a0).setCell ⟨g4, 1, none⟩ a1).setCell ⟨g4, 2, none⟩ a2).setCell ⟨g4, 3, none⟩ a3).setCell ⟨g4, 4, none⟩ a4).setCell ⟨g4, 5, none⟩ a5).setCell ⟨g4, 6, none⟩ a6).alloc (.cells (madeCells #[.int .i64 0] n1) e1)).alloc (.cells (madeCells #[.int .i64 0] n2) e2)).alloc (.cells (madeCells #[.int .i64 0] n3) e3)).drew w0.heap.size (g4 + 1 + 1 + 1) n3 n3 (fun _ => 0) ∧ Below w0.heap.size w0 ((((((((((w1.setCell ⟨g4, 0, none⟩ a0).setCell ⟨g4, 1, none⟩ a1).setCell ⟨g4, 2, none⟩ a2).setCell ⟨g4, 3, none⟩ a3).setCell ⟨g4, 4, none⟩ a4).setCell ⟨g4, 5, none⟩ a5).setCell ⟨g4, 6, none⟩ a6).alloc (.cells (madeCells #[.int .i64 0] n1) e1)).alloc (.cells (madeCells #[.int .i64 0] n2) e2)).alloc (.cells (madeCells #[.int .i64 0] n3) e3)).drew := by
  have hs : (((((((w1.setCell ⟨g4, 0, none⟩ a0).setCell ⟨g4, 1, none⟩ a1).setCell ⟨g4, 2, none⟩ a2).setCell ⟨g4, 3, none⟩ a3).setCell ⟨g4, 4, none⟩ a4).setCell ⟨g4, 5, none⟩ a5).setCell ⟨g4, 6, none⟩ a6).heap.size = g4 + 1 := by simp [hsz]
  obtain ⟨k1, k2, k3, k4⟩ := OwnE.three e1 e2 e3 (((((((w1.setCell ⟨g4, 0, none⟩ a0).setCell ⟨g4, 1, none⟩ a1).setCell ⟨g4, 2, none⟩ a2).setCell ⟨g4, 3, none⟩ a3).setCell ⟨g4, 4, none⟩ a4).setCell ⟨g4, 5, none⟩ a5).setCell ⟨g4, 6, none⟩ a6) n1 n2 n3 w0.heap.size (by rw [hs]; omega) (by omega) (by omega) (by omega)
  have hh := set7_heap (a0 := a0) (a1 := a1) (a2 := a2) (a3 := a3) (a4 := a4) (a5 := a5) (a6 := a6) h4
  have hg7 := hB.grown (grown_set7 (w := w1) (g := g4) (a0 := a0) (a1 := a1) (a2 := a2) (a3 := a3) (a4 := a4) (a5 := a5) (a6 := a6)) hB.size (fun k e => by cases e; exact hg)
  generalize (((((((w1.setCell ⟨g4, 0, none⟩ a0).setCell ⟨g4, 1, none⟩ a1).setCell ⟨g4, 2, none⟩ a2).setCell ⟨g4, 3, none⟩ a3).setCell ⟨g4, 4, none⟩ a4).setCell ⟨g4, 5, none⟩ a5).setCell ⟨g4, 6, none⟩ a6) = W7 at *
  rw [hs] at k1 k2 k3
  exact ⟨(k4.block g4 (by omega)).trans hh, k1, k2, k3, (hg7.trans (k4.mono (by rw [hs]; omega))).drew⟩
set_option maxRecDepth 100000 in
set_option maxHeartbeats 1000000 in
theorem steps_any (b c b2 c2 m n s : Nat) (n24 : n ≤ 24) (m24 : m ≤ 24) (w : World) :
    Calls Try.prog 25 #[shV b c m n s, .slice (some ⟨b2, 0, none⟩) s c2] w fun r w' => ∃ gN gJ gF, r = .returned (StK.V ⟨b, c, b2, c2, m, n, s, gN, gJ, gF, n, n, m⟩) ∧ StO ⟨b, c, b2, c2, m, n, s, gN, gJ, gF, n, n, m⟩ w' w.heap.size (fun _ => 0) (fun _ => 0) (fun _ => 0) ∧ Below w.heap.size w w' := by
  have hmk1 := fun W => run_mk 52 3 Try.underlying52 info_intI n (by omega) W
  have hmk2 := fun W => run_mk 25 2 Try.underlying25 info_int n (by omega) W
  have hmk3 := fun W => run_mk 25 2 Try.underlying25 info_int m (by omega) W
  unfold shV
  go_enter Try.func25, Try.ntmps25
  go_wp2_with fail
  obtain ⟨g2, hg2⟩ : ∃ g2, g2 = w.heap.size := ⟨_, rfl⟩
  obtain ⟨g4, hg4⟩ : ∃ g4, g4 = w.heap.size + 1 := ⟨_, rfl⟩
  obtain ⟨w1, hw1⟩ : ∃ w1, w1 = (w.alloc (.cells #[.slice (some ⟨b, 0, none⟩) s c, .int .i64 n, .int .i64 m] 42)).alloc (.cells #[.slice none 0 0, .int .i64 0, .int .i64 0, .slice none 0 0, .slice none 0 0, .slice none 0 0, .slice none 0 0] 54) := ⟨_, rfl⟩
  have h2 : w1.heap[g2]? = some (.cells #[.slice (some ⟨b, 0, none⟩) s c, .int .i64 n, .int .i64 m] 42 (0, 0)) := by rw [hw1, hg2, heap_alloc_get, if_neg (by simp)]; exact heap_alloc_new _ _
  have h4 : w1.heap[g4]? = some (.cells #[.slice none 0 0, .int .i64 0, .int .i64 0, .slice none 0 0, .slice none 0 0, .slice none 0 0, .slice none 0 0] 54 (0, 0)) := by rw [hw1, hg4, heap_alloc_get, if_pos (by simp)]
  have HB1 := hd (show Below w.heap.size w w1 by rw [hw1]; go_grown)
  have hsz : w1.heap.size = g4 + 1 := by rw [hw1, hg4]; simp
  have HG2 := hd hg2
  have HG4 := hd hg4
  have hgw : w.heap.size ≤ g4 := by omega
  rw [← hg4, ← hg2]
  rw [← hw1]
  clear hw1 hg2 hg4
  obtain ⟨x0, x1, x2⟩ := three_cells h2
  have hl4 : g4 < w1.heap.size := by omega
  have y0 : w1.cell? ⟨g4, 0, none⟩ = some (.slice none 0 0) := (cell_of_row _ g4 0 _ _ _ h4).trans rfl
  have y1 : w1.cell? ⟨g4, 1, none⟩ = some (.int .i64 0) := (cell_of_row _ g4 1 _ _ _ h4).trans rfl
  have y2 : w1.cell? ⟨g4, 2, none⟩ = some (.int .i64 0) := (cell_of_row _ g4 2 _ _ _ h4).trans rfl
  have y3 : w1.cell? ⟨g4, 3, none⟩ = some (.slice none 0 0) := (cell_of_row _ g4 3 _ _ _ h4).trans rfl
  have y4 : w1.cell? ⟨g4, 4, none⟩ = some (.slice none 0 0) := (cell_of_row _ g4 4 _ _ _ h4).trans rfl
  have y5 : w1.cell? ⟨g4, 5, none⟩ = some (.slice none 0 0) := (cell_of_row _ g4 5 _ _ _ h4).trans rfl
  have y6 : w1.cell? ⟨g4, 6, none⟩ = some (.slice none 0 0) := (cell_of_row _ g4 6 _ _ _ h4).trans rfl
  have z0 : w1.frozen? ⟨g4, 0, none⟩ = false := frozen_of_row _ g4 0 _ _ h4
  have z1 : w1.frozen? ⟨g4, 1, none⟩ = false := frozen_of_row _ g4 1 _ _ h4
  have z2 : w1.frozen? ⟨g4, 2, none⟩ = false := frozen_of_row _ g4 2 _ _ h4
  have z3 : w1.frozen? ⟨g4, 3, none⟩ = false := frozen_of_row _ g4 3 _ _ h4
  have z4 : w1.frozen? ⟨g4, 4, none⟩ = false := frozen_of_row _ g4 4 _ _ h4
  have z5 : w1.frozen? ⟨g4, 5, none⟩ = false := frozen_of_row _ g4 5 _ _ h4
  have z6 : w1.frozen? ⟨g4, 6, none⟩ = false := frozen_of_row _ g4 6 _ _ h4
  have h22 : g2 < w1.heap.size := (Array.getElem?_eq_some_iff.1 h2).1
  have K3 : ∀ (W : World), W.heap.size = w1.heap.size → W.heap[g2]? = some (.cells #[.slice (some ⟨b, 0, none⟩) s c, .int .i64 n, .int .i64 m] 42 (0, 0)) → ∀ (A B C : Obj), (((W.alloc A).alloc B).alloc C).heap[g2]? = some (.cells #[.slice (some ⟨b, 0, none⟩) s c, .int .i64 n, .int .i64 m] 42 (0, 0)) := fun W hs hW A B C => by
    rw [heap_alloc_get, if_neg (by simp; omega), heap_alloc_get, if_neg (by simp; omega), heap_alloc_get, if_neg (by omega)]; exact hW
  have K2 := hd (K3 w1 rfl h2)
  have K2a := hd (fun A => show (w1.alloc A).heap[g2]? = some (.cells #[.slice (some ⟨b, 0, none⟩) s c, .int .i64 n, .int .i64 m] 42 (0, 0)) by rw [heap_alloc_get, if_neg (by omega)]; exact h2)
  have K2b := hd (fun A B => show ((w1.alloc A).alloc B).heap[g2]? = some (.cells #[.slice (some ⟨b, 0, none⟩) s c, .int .i64 n, .int .i64 m] 42 (0, 0)) by rw [heap_alloc_get, if_neg (by simp; omega)]; exact K2a.out A)
  have h24 : g2 ≠ g4 := by have := HG2.out; have := HG4.out; omega
  have K7 := hd (fun (a0 a1 a2 a3 a4 a5 a6 : Value) => K3 (((((((w1.setCell ⟨g4, 0, none⟩ a0).setCell ⟨g4, 1, none⟩ a1).setCell ⟨g4, 2, none⟩ a2).setCell ⟨g4, 3, none⟩ a3).setCell ⟨g4, 4, none⟩ a4).setCell ⟨g4, 5, none⟩ a5).setCell ⟨g4, 6, none⟩ a6) (by simp) ((grown_set7.block g2 h22 (fun e => h24 (Option.some.inj e))).trans h2))
  clear K3
  have H4 := hd h4
  have H2 := hd h2
  clear h2 h4
  refine' Code.wp_mono (ExPost3.imp (X := fun gN gJ gF w' => w'.heap[g4]? = some (.cells #[.slice (some ⟨b, 0, none⟩) s c, .int .i64 n, .int .i64 m, .slice (some ⟨b2, 0, none⟩) s c2, .slice (some ⟨gN, 0, none⟩) n n, .slice (some ⟨gJ, 0, none⟩) n n, .slice (some ⟨gF, 0, none⟩) m m] 54 (0, 0)) ∧ StO ⟨b, c, b2, c2, m, n, s, gN, gJ, gF, n, n, m⟩ w' w.heap.size (fun _ => 0) (fun _ => 0) (fun _ => 0) ∧ Below w.heap.size w w') (mk := _) ?_) ?_
  rotate_left 2
  focus
    go_region_held3 (fun w' => w'.cell? ⟨g2, 0, none⟩ = some (.slice (some ⟨b, 0, none⟩) s c) ∧ w'.cell? ⟨g2, 1, none⟩ = some (.int .i64 n) ∧ w'.cell? ⟨g2, 2, none⟩ = some (.int .i64 m)) ((simp only [cell_drew_own]; first | with_reducible exact ⟨x0, x1, x2⟩ | with_reducible exact three_cells (K7.out _ _ _ _ _ _ _ _ _ _) | with_reducible exact three_cells (K2.out _ _ _) | with_reducible exact three_cells (K2b.out _ _) | with_reducible exact three_cells (K2a.out _))) (fail)
    · (refine ⟨g4 + 1, g4 + 1 + 1, g4 + 1 + 1 + 1, ?_, (made_st HB1.out H4.out hsz hgw 3 2 2 n n m (by omega) (by omega) (by omega) _ _ _ _ _ _ _).1, ⟨(made_st HB1.out H4.out hsz hgw 3 2 2 n n m (by omega) (by omega) (by omega) _ _ _ _ _ _ _).2.1, (made_st HB1.out H4.out hsz hgw 3 2 2 n n m (by omega) (by omega) (by omega) _ _ _ _ _ _ _).2.2.1, (made_st HB1.out H4.out hsz hgw 3 2 2 n n m (by omega) (by omega) (by omega) _ _ _ _ _ _ _).2.2.2.1, by simp only; omega, by simp only; omega, by simp only; omega⟩, (made_st HB1.out H4.out hsz hgw 3 2 2 n n m (by omega) (by omega) (by omega) _ _ _ _ _ _ _).2.2.2.2⟩; generalize g4 + 1 + 1 + 1 = r3; generalize g4 + 1 + 1 = r2; generalize g4 + 1 = r1; exact rfl)
    · (refine ⟨g4 + 1, g4 + 1 + 1 + 1, g4 + 1 + 1, ?_, (made_st HB1.out H4.out hsz hgw 3 2 2 n m n (by omega) (by omega) (by omega) _ _ _ _ _ _ _).1, ⟨(made_st HB1.out H4.out hsz hgw 3 2 2 n m n (by omega) (by omega) (by omega) _ _ _ _ _ _ _).2.1, (made_st HB1.out H4.out hsz hgw 3 2 2 n m n (by omega) (by omega) (by omega) _ _ _ _ _ _ _).2.2.2.1, (made_st HB1.out H4.out hsz hgw 3 2 2 n m n (by omega) (by omega) (by omega) _ _ _ _ _ _ _).2.2.1, by simp only; omega, by simp only; omega, by simp only; omega⟩, (made_st HB1.out H4.out hsz hgw 3 2 2 n m n (by omega) (by omega) (by omega) _ _ _ _ _ _ _).2.2.2.2⟩; generalize g4 + 1 + 1 + 1 = r3; generalize g4 + 1 + 1 = r2; generalize g4 + 1 = r1; exact rfl)
    · (refine ⟨g4 + 1 + 1, g4 + 1, g4 + 1 + 1 + 1, ?_, (made_st HB1.out H4.out hsz hgw 2 3 2 n n m (by omega) (by omega) (by omega) _ _ _ _ _ _ _).1, ⟨(made_st HB1.out H4.out hsz hgw 2 3 2 n n m (by omega) (by omega) (by omega) _ _ _ _ _ _ _).2.2.1, (made_st HB1.out H4.out hsz hgw 2 3 2 n n m (by omega) (by omega) (by omega) _ _ _ _ _ _ _).2.1, (made_st HB1.out H4.out hsz hgw 2 3 2 n n m (by omega) (by omega) (by omega) _ _ _ _ _ _ _).2.2.2.1, by simp only; omega, by simp only; omega, by simp only; omega⟩, (made_st HB1.out H4.out hsz hgw 2 3 2 n n m (by omega) (by omega) (by omega) _ _ _ _ _ _ _).2.2.2.2⟩; generalize g4 + 1 + 1 + 1 = r3; generalize g4 + 1 + 1 = r2; generalize g4 + 1 = r1; exact rfl)
    · (refine ⟨g4 + 1 + 1 + 1, g4 + 1, g4 + 1 + 1, ?_, (made_st HB1.out H4.out hsz hgw 2 2 3 n m n (by omega) (by omega) (by omega) _ _ _ _ _ _ _).1, ⟨(made_st HB1.out H4.out hsz hgw 2 2 3 n m n (by omega) (by omega) (by omega) _ _ _ _ _ _ _).2.2.2.1, (made_st HB1.out H4.out hsz hgw 2 2 3 n m n (by omega) (by omega) (by omega) _ _ _ _ _ _ _).2.1, (made_st HB1.out H4.out hsz hgw 2 2 3 n m n (by omega) (by omega) (by omega) _ _ _ _ _ _ _).2.2.1, by simp only; omega, by simp only; omega, by simp only; omega⟩, (made_st HB1.out H4.out hsz hgw 2 2 3 n m n (by omega) (by omega) (by omega) _ _ _ _ _ _ _).2.2.2.2⟩; generalize g4 + 1 + 1 + 1 = r3; generalize g4 + 1 + 1 = r2; generalize g4 + 1 = r1; exact rfl)
    · (refine ⟨g4 + 1 + 1, g4 + 1 + 1 + 1, g4 + 1, ?_, (made_st HB1.out H4.out hsz hgw 2 3 2 m n n (by omega) (by omega) (by omega) _ _ _ _ _ _ _).1, ⟨(made_st HB1.out H4.out hsz hgw 2 3 2 m n n (by omega) (by omega) (by omega) _ _ _ _ _ _ _).2.2.1, (made_st HB1.out H4.out hsz hgw 2 3 2 m n n (by omega) (by omega) (by omega) _ _ _ _ _ _ _).2.2.2.1, (made_st HB1.out H4.out hsz hgw 2 3 2 m n n (by omega) (by omega) (by omega) _ _ _ _ _ _ _).2.1, by simp only; omega, by simp only; omega, by simp only; omega⟩, (made_st HB1.out H4.out hsz hgw 2 3 2 m n n (by omega) (by omega) (by omega) _ _ _ _ _ _ _).2.2.2.2⟩; generalize g4 + 1 + 1 + 1 = r3; generalize g4 + 1 + 1 = r2; generalize g4 + 1 = r1; exact rfl)
    · (refine ⟨g4 + 1 + 1 + 1, g4 + 1 + 1, g4 + 1, ?_, (made_st HB1.out H4.out hsz hgw 2 2 3 m n n (by omega) (by omega) (by omega) _ _ _ _ _ _ _).1, ⟨(made_st HB1.out H4.out hsz hgw 2 2 3 m n n (by omega) (by omega) (by omega) _ _ _ _ _ _ _).2.2.2.1, (made_st HB1.out H4.out hsz hgw 2 2 3 m n n (by omega) (by omega) (by omega) _ _ _ _ _ _ _).2.2.1, (made_st HB1.out H4.out hsz hgw 2 2 3 m n n (by omega) (by omega) (by omega) _ _ _ _ _ _ _).2.1, by simp only; omega, by simp only; omega, by simp only; omega⟩, (made_st HB1.out H4.out hsz hgw 2 2 3 m n n (by omega) (by omega) (by omega) _ _ _ _ _ _ _).2.2.2.2⟩; generalize g4 + 1 + 1 + 1 = r3; generalize g4 + 1 + 1 = r2; generalize g4 + 1 = r1; exact rfl)
  rintro gN gJ gF w9 ⟨hh, hst, hb9⟩
  go_wp2
  exact bodyPost_ret (results_cell_row (P := Try.prog) rfl _ _ _ _ _ _ _ rfl hh Try.underlying54 rfl size_steps) rfl ⟨gN, gJ, gF, rfl, hst, hb9⟩
end Go.Proofs.Ytkaopdpdfbkchaa
