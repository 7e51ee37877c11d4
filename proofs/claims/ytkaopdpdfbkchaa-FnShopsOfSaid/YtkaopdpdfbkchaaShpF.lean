/- A shop with routes: contracts. -/
import Derived.Test.YtkaopdpdfbkchaaShpD
import Derived.Test.YtkaopdpdfbkchaaShpE
import Derived.Test.YtkaopdpdfbkchaaJoinP
namespace Go.Proofs.Ytkaopdpdfbkchaa
open Go.RowKit Plain
set_option linter.unusedVariables false
set_option linter.unusedSimpArgs false
attribute [local go_sem ↓] Go.wp_at_zero Go.wp_at_succ
theorem set3_heap {w : World} {g t : Nat} {x y z a b c : Value} (h : w.heap[g]? = some (.cells #[x, y, z] t (0, 0))) : (((w.setCell ⟨g, 0, none⟩ a).setCell ⟨g, 1, none⟩ b).setCell ⟨g, 2, none⟩ c).heap[g]? = some (.cells #[a, b, c] t (0, 0)) := by
  have h1 := heap_setCell_same w g 0 _ t a h
  have h2 := heap_setCell_same _ g 1 _ t b h1
  have h3 := heap_setCell_same _ g 2 _ t c h2
  simpa using h3
theorem below_set3 {w0 w : World} {g : Nat} {a b c : Value} (h : Below w0.heap.size w0 w) (hg : w0.heap.size ≤ g) : Below w0.heap.size w0 (((w.setCell ⟨g, 0, none⟩ a).setCell ⟨g, 1, none⟩ b).setCell ⟨g, 2, none⟩ c) :=
  ((h.setCell (p := ⟨g, 0, none⟩) hg a).setCell (p := ⟨g, 1, none⟩) hg b).setCell (p := ⟨g, 2, none⟩) hg c
theorem set3_cell {w : World} {g k o : Nat} {a b c : Value} (h : k ≠ g) : (((w.setCell ⟨g, 0, none⟩ a).setCell ⟨g, 1, none⟩ b).setCell ⟨g, 2, none⟩ c).cell? ⟨k, o, none⟩ = w.cell? ⟨k, o, none⟩ := by
  rw [World.cell?_setCell_other _ _ _ _ (fun e => h (congrArg Addr.block e).symm), World.cell?_setCell_other _ _ _ _ (fun e => h (congrArg Addr.block e).symm), World.cell?_setCell_other _ _ _ _ (fun e => h (congrArg Addr.block e).symm)]
set_option maxRecDepth 100000 in
set_option maxHeartbeats 4000000 in
theorem routed_any (b2 c2 b c m n s : Nat) (ro t : Nat → Nat) (w : World) (hr : RtT w b2 c2 m n s ro) (h : ShT w b c m n s t) :
    Calls Try.prog 23 #[.slice (some ⟨b2, 0, none⟩) s c2, .slice (some ⟨b, 0, none⟩) s c, .int .i64 m] w fun r w' => r = .returned (.tuple #[shV b c m n s, .bool true]) ∧ Below w.heap.size w w' := by
  have AS := hd (fun (w' : World) (hb : Below w.heap.size w w') => asShop_any b c m n s t w' (h.below hb))
  have AR := hd (fun (w' : World) (hb : Below w.heap.size w w') => AreRoutes_any b2 c2 m n s ro w' (hr.below hb) h.k)
  clear h hr
  unfold shV at AS
  go_enter Try.func23, Try.ntmps23
  go_wp2_with fail
  obtain ⟨g6, hg6⟩ : ∃ g6, g6 = w.heap.size := ⟨_, rfl⟩
  obtain ⟨w1, hw1⟩ : ∃ w1, w1 = w.alloc (.cells #[.slice none 0 0, .int .i64 0, .int .i64 0] 42) := ⟨_, rfl⟩
  have H6 := hd (show w1.heap[g6]? = some (.cells #[.slice none 0 0, .int .i64 0, .int .i64 0] 42 (0, 0)) by rw [hw1, hg6]; exact heap_alloc_new _ _)
  have HB1 := hd (show Below w.heap.size w w1 by rw [hw1]; go_grown)
  have HG6 := hd hg6
  rw [← hw1, ← hg6]
  clear hw1 hg6
  go_at_call 17
  refine (AS.out _ HB1.out).mono ?_; rintro e w' ⟨rfl, hb⟩
  go_wp2_with fail
  obtain ⟨g8, hg8⟩ : ∃ g8, g8 = w'.heap.size := ⟨_, rfl⟩
  obtain ⟨w2, hw2⟩ : ∃ w2, w2 = w'.alloc (.cells #[.slice (some ⟨b, 0, none⟩) s c, .int .i64 n, .int .i64 m] 42) := ⟨_, rfl⟩
  have H8 := hd (show w2.heap[g8]? = some (.cells #[.slice (some ⟨b, 0, none⟩) s c, .int .i64 n, .int .i64 m] 42 (0, 0)) by rw [hw2, hg8]; exact heap_alloc_new _ _)
  have HB2 := hd (show Below w1.heap.size w1 w2 by rw [hw2]; exact hb.alloc hb.size _)
  have hl68 : w1.heap.size ≤ g8 := by rw [hg8]; exact hb.size
  rw [← hw2, ← hg8]
  clear hw2 hg8 hb AS
  have hl6 : g6 < w1.heap.size := (Array.getElem?_eq_some_iff.1 H6.out).1
  have hl8 : g8 < w2.heap.size := (Array.getElem?_eq_some_iff.1 H8.out).1
  have h86 : g8 ≠ g6 := by omega
  obtain ⟨x0, x1, x2⟩ := three_cells H8.out
  have AF := hd (fun (w' : World) (hb : Below w2.heap.size w2 w') => show (w'.cell? ⟨g6, 0, none⟩ = some (.slice none 0 0) ∧ w'.cell? ⟨g6, 1, none⟩ = some (.int .i64 0) ∧ w'.cell? ⟨g6, 2, none⟩ = some (.int .i64 0)) ∧ (w'.cell? ⟨g8, 0, none⟩ = some (.slice (some ⟨b, 0, none⟩) s c) ∧ w'.cell? ⟨g8, 1, none⟩ = some (.int .i64 n) ∧ w'.cell? ⟨g8, 2, none⟩ = some (.int .i64 m)) from
    ⟨three_cells ((hb.block _ (Nat.lt_of_lt_of_le hl6 HB2.out.size)).trans ((HB2.out.block _ hl6).trans H6.out)), three_cells ((hb.block _ hl8).trans H8.out)⟩)
  have AH := hd (fun (w' : World) (hb : Below w2.heap.size w2 w') => show w'.heap[g6]? = some (.cells #[.slice none 0 0, .int .i64 0, .int .i64 0] 42 (0, 0)) from (hb.block _ (Nat.lt_of_lt_of_le hl6 HB2.out.size)).trans ((HB2.out.block _ hl6).trans H6.out))
  have A2 := hd (AR.out w2.drew (HB1.out.trans (HB2.out.mono HB1.out.size)).drew)
  refine' Code.wp_mono (ExPost0.imp (X := fun w' => w'.heap[g6]? = some (.cells #[.slice (some ⟨b, 0, none⟩) s c, .int .i64 n, .int .i64 m] 42 (0, 0)) ∧ Below w.heap.size w w') (mk := _) ?_) ?_
  rotate_left 2
  focus
    go_region_held3 (fun w' => (w'.cell? ⟨g8, 0, none⟩ = some (.slice (some ⟨b, 0, none⟩) s c) ∧ w'.cell? ⟨g8, 1, none⟩ = some (.int .i64 n) ∧ w'.cell? ⟨g8, 2, none⟩ = some (.int .i64 m)) ∧ True) (first | exact ⟨(AF.out _ (Below.refl _ _)).2, trivial⟩ | exact ⟨hkk, trivial⟩ | (refine ⟨⟨(set3_cell h86).trans hkk.1, (set3_cell h86).trans hkk.2.1, (set3_cell h86).trans hkk.2.2⟩, trivial⟩)) (first | (go_simp; go_at_call 14; refine A2.out.mono ?_; rintro e w3 ⟨rfl, hb3⟩; have hkk := (AF.out w3 (below_tr hb3 (Below.refl _ _).drew)).2; obtain ⟨y0, y1, y2⟩ := (AF.out w3 (below_tr hb3 (Below.refl _ _).drew)).1; have h63 := AH.out w3 (below_tr hb3 (Below.refl _ _).drew); have z0 := frozen_of_row w3 g6 0 _ _ h63; have z1 := frozen_of_row w3 g6 1 _ _ h63; have z2 := frozen_of_row w3 g6 2 _ _ h63; have H63 := hd h63; clear h63))
    refine ⟨?_, set3_heap H63.out, below_set3 (below_tr hb3 (HB1.out.trans (HB2.out.mono HB1.out.size)).drew) (Nat.le_of_eq HG6.out.symm)⟩
    exact rfl
  rintro w9 ⟨hh, hb9⟩
  go_wp2
  refine bodyPost_ret (v := .tuple #[shV b c m n s, .bool true]) ?_ rfl ⟨rfl, hb9⟩
  rw [results_cell_tmp rfl]
  simp [asAddr, Result.andThen, run_loadVar_row _ g6 _ _ _ _ _ hh Try.underlying42 rfl size_shop, shV]

end Go.Proofs.Ytkaopdpdfbkchaa
