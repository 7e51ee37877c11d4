/- What an order costs, and what a change of places gains: contracts. -/
import Derived.Test.YtjddlgmdbkaieaaJobD
import Derived.Test.YtjddlgmdbkaieaaCopy
import Derived.Test.YtjddlgmdbkaieaaSymU
import Derived.Deep.CutRange
namespace Go.Proofs.Ytjddlgmdbkaieaa
open Go.RowKit Plain
set_option linter.unusedVariables false
set_option linter.unusedSimpArgs false
attribute [local go_sem ↓] Go.wp_at_zero Go.wp_at_succ
set_option maxHeartbeats 1000000 in
theorem CostOf_any (U V : Value) (l : List Q4) (d : List Int) (n kind : Nat) (hk : kind ≤ 4) (w : World) (hj : JobsAt w U l n) (h : OrdAt w V d n) :
    Calls Try.prog 9 #[U, V, .int .i64 kind] w fun r w' => r = .returned (.tuple #[.int .i64 (costO kind l (ordF d) n), .bool true]) ∧ Below w.heap.size w w' := by
  have HI := hd (orders_any U V l d n w hj h)
  have HE := hd (fun w' (hb : Below w.heap.size w w') => endsOf_any U V l d n w' (hj.below hb) (h.below hb))
  have HC := hd (fun X w' (hb : Below w.heap.size w w') (hs : Sl w' 1 X n ((endsL l (ordF d) n n).map vi)) => costOf_any U X l (endsL l (ordF d) n n) n kind hk w' (hj.below hb) hs (fun j => endsL_bd hj.ok h.perm.lt n (Nat.le_refl _) hj.n24 j))
  have g1 : inR (kind : Int) 0 4 = true := inR_iff.2 ⟨by omega, by omega⟩
  have HN := hd hj.n24
  clear h hj
  go_enter Try.func9, Try.ntmps9
  go_wp2_with (first
    | (go_at_call 23; refine HI.out.mono ?_; rintro e w1 ⟨rfl, hb1⟩)
    | (go_at_call 21; refine (within_t _ _ _ _ g1).mono ?_; rintro e w' ⟨rfl, hw⟩; subst hw)
    | (go_at_call 25; refine (HE.out _ hb1).mono ?_; rintro e w2 ⟨rfl, ho2, hb2⟩; have hB2 := below_tr hb2 hb1)
    | (go_at_call 24; refine (HC.out _ _ hB2 (own_sl ho2 (by have := HN.out; unfold maxLen; omega))).mono ?_; rintro e w3 ⟨rfl, hb3⟩))
  go_ret2
  exact ⟨rfl, below_tr hb3 hB2⟩
set_option maxHeartbeats 2000000 in
theorem SwapGain_any (U V : Value) (l : List Q4) (d : List Int) (n kind x : Nat) (hk : kind ≤ 4) (hx : x + 1 < n) (w : World) (hj : JobsAt w U l n) (h : OrdAt w V d n) :
    Calls Try.prog 12 #[U, V, .int .i64 x, .int .i64 kind] w fun r w' => r = .returned (.tuple #[.int .i64 (costO kind l (ordF d) n - costO kind l (ordF (turnL d x)) n), .bool true]) ∧ Below w.heap.size w w' := by
  have HJ := hd hj
  have HO := hd h
  have HC := hd (fun X d' w' (hb : Below w.heap.size w w') (ho : OrdAt w' X d' n) => CostOf_any U X l d' n kind hk w' (hj.below hb) ho)
  have n24 := hj.n24
  have CL := hd (fun w' (hb : Below w.heap.size w w') => Clone_any V d w' (by rw [h.len]; exact h.sl.below hb) (by rw [h.len]; omega) (by rw [h.len]; omega))
  rw [h.len] at CL
  have B1 := costO_bd (kind := kind) hj.ok h.perm.lt n24
  have hp2 := turnL_perm h.len h.perm hx
  have B2 := costO_bd (kind := kind) hj.ok hp2.lt n24
  have HP2 := hd hp2
  have hn2 : ∀ k, k < n → 0 ≤ (turnL d x).getD k 0 := fun k hk => by
    rw [turnL_at (by rw [h.len]; omega)]
    split
    · exact h.nn _ hx
    · split
      · exact h.nn _ (by omega)
      · exact h.nn _ hk
  have HN2 := hd hn2
  have HL := hd h.len
  have HT := hd (show turnL d x = (d.set x (d.getD (x + 1) 0)).set (x + 1) (d.getD x 0) from rfl)
  have HL2 := hd (show (turnL d x).length = n by rw [turnL_len, h.len])
  obtain ⟨A, cap, hU, _, _⟩ := hj.sl
  subst hU
  have g1 : inR (x : Int) 0 ((n : Int) - 2) = true := inR_iff.2 ⟨by omega, by omega⟩
  have w1 : IntKind.i64.wrap ((n : Int) - 2) = (n : Int) - 2 := IntWalk.i64_in _ (by omega)
  obtain ⟨x1, hx1⟩ : ∃ x1, x1 = x + 1 := ⟨_, rfl⟩
  have w2 : IntKind.i64.wrap ((x : Int) + 1) = (x1 : Int) := by rw [IntWalk.i64_in _ (by omega), hx1]; push_cast; rfl
  rw [← hx1] at HT
  have hx2 : (x : Int) < (n : Int) := by omega
  have hx3 : (x1 : Int) < (n : Int) := by omega
  have hx4 : x1 < n := by omega
  have hx5 : x < n := by omega
  have hne : ¬ (x : Int) = (x1 : Int) := by omega
  have hne2 : ¬ x = x1 := by omega
  obtain ⟨c1, hc1⟩ : ∃ c1, c1 = costO kind l (ordF d) n := ⟨_, rfl⟩
  have HC1 := hd hc1
  rw [← hc1] at B1
  have w3 : IntKind.i64.wrap (c1 - costO kind l (ordF (turnL d x)) n) = c1 - costO kind l (ordF (turnL d x)) n := IntWalk.i64_in _ (by omega)
  rw [← hc1]
  clear h hj hp2 hn2 B1 B2 hc1 hx1
  go_enter Try.func12, Try.ntmps12
  go_wp2_with fail
  go_at_call 9
  refine (HC.out V d w (Below.refl _ _) HO.out).mono ?_
  rintro e wa ⟨rfl, hba⟩
  rw [← HC1.out]
  go_wp2_with (first
    | (go_at_call 21; refine (within_t _ _ _ _ g1).mono ?_; rintro e w' ⟨rfl, hw⟩; subst hw)
    | (go_at_call 27; refine (CL.out _ hba).mono ?_; rintro e wb ⟨u, rfl, hob, hbb, hub⟩))
  obtain ⟨g, cg, rfl, hg0, hg1⟩ := own_form hob (by omega)
  have HBb := hd (below_tr hbb hba)
  have HOb := hd (own_mono hob hba.size)
  have cell : ∀ k, k < n → wb.cell? ⟨g, k, none⟩ = some (.int .i64 (d.getD k 0)) := fun k hk => by
    rw [HOb.out.cellAt k (by omega), List.getElem?_map, List.getElem?_eq_getElem (by rw [HL.out]; exact hk), Option.map_some, List.getD_eq_getElem?_getD, List.getElem?_eq_getElem (by rw [HL.out]; exact hk)]
    rfl
  have cx := cell x hx5
  have cy := cell x1 hx4
  have fz : ∀ m, wb.frozen? ⟨g, m, none⟩ = false := by
    rcases HOb.out.2 with ⟨h5, _⟩ | ⟨g', cap', cur, h5, _, h6, _⟩
    · cases h5
    · cases h5
      exact fun m => frozen_of_row wb g m cur _ h6
  have fx := fz x
  have fy := fz x1
  have HGG := hd (show w.heap.size ≤ g by have := hba.size; omega)
  clear hob hbb hub hg0 hg1 fz cell
  have HBA := hd hba
  clear hba
  generalize d.getD x 0 = a0 at *
  generalize d.getD x1 0 = a1 at *
  go_upto_region 5 with fail
  go_region
  have q1' := HOb.out.stored x (.int .i64 a1)
  have q2' := q1'.1.stored x1 (.int .i64 a0)
  have erow : ((d.map vi).set x (.int .i64 a1)).set x1 (.int .i64 a0) = (turnL d x).map vi := by
    rw [HT.out, List.map_set, List.map_set]; rfl
  rw [erow] at q2'
  have hb9 : Below w.heap.size w ((wb.setCell ⟨g, x, none⟩ (.int .i64 a1)).setCell ⟨g, x1, none⟩ (.int .i64 a0)).drew := (below_row (q1'.2.trans q2'.2) HBb.out (fun k e => by cases e; exact HGG.out)).drew
  have ho9 : ((wb.setCell ⟨g, x, none⟩ (.int .i64 a1)).setCell ⟨g, x1, none⟩ (.int .i64 a0)).drew.ownsRow w.heap.size 2 1 (.slice (some ⟨g, 0, none⟩) n cg) n ((turnL d x).map vi) := q2'.1.drew
  obtain ⟨w9, hw9⟩ : ∃ w9, w9 = ((wb.setCell ⟨g, x, none⟩ (.int .i64 a1)).setCell ⟨g, x1, none⟩ (.int .i64 a0)).drew := ⟨_, rfl⟩
  rw [← hw9] at hb9 ho9 ⊢
  have HO9 := hd ho9
  have HB9 := hd hb9
  clear hw9 q1' q2' erow cx cy fx fy hb9 ho9
  go_wp2_with fail
  go_at_call 9
  refine (HC.out _ (turnL d x) w9 HB9.out ⟨own_sl HO9.out (by unfold maxLen; omega), HL2.out, HN2.out, HP2.out⟩).mono ?_
  rintro e wc ⟨rfl, hbc⟩
  go_wp2
  go_ret2
  exact ⟨rfl, below_tr hbc HB9.out⟩
end Go.Proofs.Ytjddlgmdbkaieaa
