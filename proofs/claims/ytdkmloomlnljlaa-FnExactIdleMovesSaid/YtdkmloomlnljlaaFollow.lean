/- Whether a trip can follow another, on both sides; the table of all pairs. -/
import Derived.Test.YtdkmloomlnljlaaProg
import Derived.Test.YtdkmloomlnljlaaNum
import Derived.Test.YtdkmloomlnljlaaWords
import Derived.Test.YtdkmloomlnljlaaTrips
import Derived.Test.YtdkmloomlnljlaaQSlice
import Derived.Test.YtdkmloomlnljlaaFolT
import Derived.Test.YtdkmloomlnljlaaApp
namespace Go.Proofs.Ytdkmloomlnljlaa
open Go.RowKit Plain
set_option linter.unusedVariables false
set_option linter.unusedSimpArgs false
attribute [local go_sem ↓] Go.wp_at_zero Go.wp_at_succ

set_option maxHeartbeats 1000000 in
theorem move_any (a b c a' b' d' : Int) (nd nc : Nat) (v : Value) (ms : List Int) (w : World) (hs : Sl w 1 v ms.length (ms.map vi)) (hl : ms.length = 64) (hd1 : nd ≤ 7) (hc1 : nc ≤ 7) :
    Calls Try.prog 23 #[.agg #[.int .i64 a, .int .i64 b, .int .i64 c, .int .i64 nd], .agg #[.int .i64 a', .int .i64 b', .int .i64 nc, .int .i64 d'], v] w fun r w' => r = .returned (.int .i64 (ms.getD (nd * 8 + nc) 0)) ∧ Below w.heap.size w w' := by
  obtain ⟨A, cap, rfl, hcap, hr⟩ := hs
  obtain ⟨o, off, rfl, hc⟩ := hr.int (k := nd * 8 + nc) (by omega)
  have hlt := block_lt_of_cell hc
  rw [hl]
  rw [hl] at hcap
  generalize ms.getD (nd * 8 + nc) 0 = m at *
  obtain ⟨j, hj⟩ : ∃ j : Nat, j = nd * 8 + nc := ⟨_, rfl⟩
  have hj64 : j < 64 := by omega
  rw [← hj] at hc
  have w1 : IntKind.i64.wrap ((nd : Int) * 8) = (nd : Int) * 8 := IntWalk.i64_in _ (by omega)
  have w2 : IntKind.i64.wrap ((nd : Int) * 8 + (nc : Int)) = (j : Int) := by rw [IntWalk.i64_in _ (by omega)]; omega
  clear hr hl hj
  go_enter Try.func23, Try.ntmps23
  go_wp2
  go_ret
  exact ⟨rfl, by go_grown⟩

set_option maxHeartbeats 2000000 in
theorem follows_any (a b c a' b' d' : Int) (nd nc : Nat) (v : Value) (ms : List Int) (w : World) (hs : Sl w 1 v ms.length (ms.map vi)) (hl : ms.length = 64) (hd1 : nd ≤ 7) (hc1 : nc ≤ 7) (hb0 : 0 ≤ b) (hb1 : b ≤ 10000) (hm0 : 0 ≤ ms.getD (nd * 8 + nc) 0) (hm1 : ms.getD (nd * 8 + nc) 0 ≤ 1000) :
    Calls Try.prog 22 #[.agg #[.int .i64 a, .int .i64 b, .int .i64 c, .int .i64 nd], .agg #[.int .i64 a', .int .i64 b', .int .i64 nc, .int .i64 d'], v] w fun r w' => r = .returned (.bool (decide (b + ms.getD (nd * 8 + nc) 0 ≤ a'))) ∧ Below w.heap.size w w' := by
  have HM := hd (fun w' h => move_any a b c a' b' d' nd nc v ms w' (hs.below h) hl hd1 hc1)
  clear hs hl
  generalize ms.getD (nd * 8 + nc) 0 = m at *
  go_enter Try.func22, Try.ntmps22
  go_wp2
  obtain ⟨W, hW⟩ : ∃ W : World, W = ((w.alloc (.cells #[.int .i64 a, .int .i64 b, .int .i64 c, .int .i64 nd] 37)).alloc (.cells #[.int .i64 a', .int .i64 b', .int .i64 nc, .int .i64 d'] 37)) := ⟨_, rfl⟩
  have hb : Below w.heap.size w W := by rw [hW]; go_grown
  have h1 : W.heap[w.heap.size]? = some (.cells #[.int .i64 a, .int .i64 b, .int .i64 c, .int .i64 nd] 37 (0,0)) := by rw [hW]; simp only [heap_alloc_get, World.size_alloc]; simp
  have h2 : W.heap[w.heap.size+1]? = some (.cells #[.int .i64 a', .int .i64 b', .int .i64 nc, .int .i64 d'] 37 (0,0)) := by rw [hW]; simp only [heap_alloc_get, World.size_alloc]; simp
  rw [← hW]
  clear hW
  have hbb : w.heap.size ≤ w.heap.size := Nat.le_refl _
  have c1 := cell_of_row W _ 0 _ _ _ h1
  have c2 := cell_of_row W _ 1 _ _ _ h1
  have c3 := cell_of_row W _ 2 _ _ _ h1
  have c4 := cell_of_row W _ 3 _ _ _ h1
  have d1 := cell_of_row W _ 0 _ _ _ h2
  have d2 := cell_of_row W _ 1 _ _ _ h2
  have d3 := cell_of_row W _ 2 _ _ _ h2
  have d4 := cell_of_row W _ 3 _ _ _ h2
  simp at c1 c2 c3 c4 d1 d2 d3 d4
  clear h1 h2 hbb
  have Hb := hd hb
  clear hb
  have hbw : Below W.heap.size W W.drew := (Below.refl _ _).drew
  generalize hB1 : w.heap.size = B1 at *
  have HB1 := hd hB1
  clear hB1
  generalize hB2 : B1 + 1 = B2 at *
  clear hB2
  go_region_held3 (fun w' => (w'.cell? ⟨B1, 0, none⟩ = some (.int .i64 a) ∧ w'.cell? ⟨B1, 1, none⟩ = some (.int .i64 b) ∧ w'.cell? ⟨B1, 2, none⟩ = some (.int .i64 c) ∧ w'.cell? ⟨B1, 3, none⟩ = some (.int .i64 nd)) ∧
      (w'.cell? ⟨B2, 0, none⟩ = some (.int .i64 a') ∧ w'.cell? ⟨B2, 1, none⟩ = some (.int .i64 b') ∧ w'.cell? ⟨B2, 2, none⟩ = some (.int .i64 nc) ∧ w'.cell? ⟨B2, 3, none⟩ = some (.int .i64 d')) ∧ Below W.heap.size W w')
    (first | go_keep | exact keep44 h (by assumption))
    (first | (go_at_call 23; refine (HM.out _ (by have := Hb.out; rw [← HB1.out] at this ⊢; exact below_tr (‹_ ∧ _ ∧ Below W.heap.size W _›).2.2 this)).mono ?_; rintro e w' ⟨rfl, h⟩))
  rename (_ ∧ _ ∧ _ ∧ _) ∧ _ => hH
  have hH2 := hd hH.2.2
  clear hH c1 c2 c3 c4 d1 d2 d3 d4 hbw
  go_wp2
  go_ret
  refine ⟨ret_bool (by rw [IntWalk.i64_in _ (by omega)]), ?_⟩
  have := Hb.out
  rw [← HB1.out] at this
  exact below_tr hH2.out this

set_option maxHeartbeats 2000000 in
theorem l06Follows_any (a b c a' b' d' : Int) (nd nc : Nat) (v u : Value) (l : List Q4) (ms : List Int) (i k : Nat) (w : World) (hs : Sl w 4 v l.length (q4s l)) (ht : Sl w 1 u ms.length (ms.map vi)) (hq : l[i]? = some ⟨a, b, c, nd⟩) (hr : l[k]? = some ⟨a', b', nc, d'⟩) (hl : ms.length = 64) (hd1 : nd ≤ 7) (hc1 : nc ≤ 7) (hb0 : 0 ≤ b) (hb1 : b ≤ 10000) (hm0 : 0 ≤ ms.getD (nd * 8 + nc) 0) (hm1 : ms.getD (nd * 8 + nc) 0 ≤ 1000) :
    Calls Try.prog 14 #[v, u, .int .i64 i, .int .i64 k] w (Draws (.bool (decide (b + ms.getD (nd * 8 + nc) 0 ≤ a'))) w) := by
  obtain ⟨A, cap, rfl, hcap, hs⟩ := hs
  obtain ⟨A', cap', rfl, hcap', ht⟩ := ht
  have hil : i < l.length := (List.getElem?_eq_some_iff.1 hq).1
  have hkl : k < l.length := (List.getElem?_eq_some_iff.1 hr).1
  have hm := hs.2.1
  unfold maxLen at hm
  obtain ⟨o, off, qa, qb, qc, qd, rfl, hq', c0, c1, c2, c3⟩ := hs.q4 hil
  obtain ⟨o', off', ra, rb, rc, rd, hA, hr', d0, d1, d2, d3⟩ := hs.q4 hkl
  cases hA
  obtain ⟨o2, off2, rfl, hc⟩ := ht.int (k := nd * 8 + nc) (by omega)
  have e1 := Option.some.inj (hq'.out.symm.trans hq)
  have e2 := Option.some.inj (hr'.out.symm.trans hr)
  obtain ⟨rfl, rfl, rfl, rfl⟩ := Q4.mk.inj e1
  obtain ⟨rfl, rfl, rfl, rfl⟩ := Q4.mk.inj e2
  clear e1 e2 hq hr hq' hr' c0 c2 d1 d3 hs ht
  generalize ms.getD (nd * 8 + nc) 0 = m at *
  rw [hl]
  rw [hl] at hcap'
  clear hl
  obtain ⟨j, hj⟩ : ∃ j : Nat, j = nd * 8 + nc := ⟨_, rfl⟩
  have hj64 : (j : Int) < 64 := by omega
  have hj0 : (0 : Int) ≤ j := by omega
  rw [← hj] at hc
  generalize l.length = n at *
  have i1 : (0 : Int) ≤ (i : Int) := by omega
  have i2 : (i : Int) < (n : Int) := by omega
  have i3 : (0 : Int) ≤ (k : Int) := by omega
  have i4 : (k : Int) < (n : Int) := by omega
  go_enter Try.func14, Try.ntmps14
  have w1 : IntKind.i64.wrap ((nd : Int) * 8) = (nd : Int) * 8 := IntWalk.i64_in _ (by omega)
  have w2 : IntKind.i64.wrap ((nd : Int) * 8 + (nc : Int)) = (j : Int) := by rw [IntWalk.i64_in _ (by omega)]; omega
  have w3 : IntKind.i64.wrap (qb + m) = qb + m := IntWalk.i64_in _ (by omega)
  clear hj
  go_wp2
  go_quiet (fail)
  go_wp2
  go_ret
  exact ⟨rfl, by first | exact ⟨_, rfl⟩ | exact drew2 _ _ _⟩
end Go.Proofs.Ytdkmloomlnljlaa
