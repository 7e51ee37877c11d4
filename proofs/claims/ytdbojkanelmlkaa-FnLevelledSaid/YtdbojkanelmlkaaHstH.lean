/- The program's cheapest haste: a contract. -/
import Derived.Test.YtdbojkanelmlkaaHstG
namespace Go.Proofs.Ytdbojkanelmlkaa
open Go.RowKit Plain
set_option linter.unusedVariables false
set_option linter.unusedSimpArgs false
attribute [local go_sem ↓] Go.wp_at_zero Go.wp_at_succ
/-- the cheapest haste, or none -/
def HasteOut (ts : List TK) (most costs : List Int) (n : Nat) (goal : Int) (w : World) (r : Ending) (w' : World) : Prop :=
  Below w.heap.size w w' ∧ match hIx ts most costs n goal with
  | none => r = .returned (.tuple #[.slice none 0 0, .int .i64 0, .bool false])
  | some t => ∃ V, r = .returned (.tuple #[V, .int .i64 (hCo ts most costs n t n), .bool true]) ∧ w'.ownsRow w.heap.size 2 1 V n ((fnL n fun i => (cutN ts most n t i : Int)).map vi)
theorem size_put : (Try.prog.info? 46).map (·.size) = some 1 := by kernel_rfl
set_option maxHeartbeats 4000000 in
set_option maxRecDepth 100000 in
theorem HastePlan_any (b c : Nat) (ts : List TK) (n : Nat) (w : World) (hT : TA w b 0 c ts n) (V1 V2 : Value) (most costs : List Int) (h1 : Sl w 1 V1 n (most.map vi)) (h2 : Sl w 1 V2 n (costs.map vi)) (n5 : n ≤ 5)
    (hm : ∀ i, i < n → 0 ≤ most.getD i 0 ∧ most.getD i 0 ≤ 3) (hc : ∀ i, i < n → 0 ≤ costs.getD i 0 ∧ costs.getD i 0 ≤ 1000) (goal : Int) (g0 : 0 ≤ goal) (g1 : goal ≤ 100000) :
    Calls Try.prog 12 #[.slice (some ⟨b, 0, none⟩) n c, V1, V2, .int .i64 goal] w (HasteOut ts most costs n goal w) := by
  have n1 := hT.n1
  obtain ⟨A1, cm, rfl, hcm, hr1⟩ := h1
  obtain ⟨A2, ck, rfl, hck, hr2⟩ := h2
  obtain ⟨bm, om, rfl, cm0⟩ := hr1.int n1
  obtain ⟨bk, ok, rfl, ck0⟩ := hr2.int n1
  have l1 := hr1.intLen
  have l2 := hr2.intLen
  have all_of : ∀ (xs : List Int) (lo hi : Int), xs.length = n → (∀ i, i < n → lo ≤ xs.getD i 0 ∧ xs.getD i 0 ≤ hi) → manyIn xs n n lo hi = true := fun xs lo hi hl h => by
    rw [manyIn, hl]
    simp only [Int.le_refl, decide_true, Bool.true_and, List.all_eq_true]
    intro x hx
    obtain ⟨i, hi', rfl⟩ := List.getElem_of_mem hx
    have := h i (by omega)
    rw [List.getD_eq_getElem?_getD, List.getElem?_eq_getElem hi', Option.getD_some] at this
    rw [inR_iff]; exact this
  have AT := hd (fun w' (h : Below w.heap.size w w') => AreTasks_any b 0 c ts n w' (hT.below h))
  have M1 := hd (fun w' (h : Below w.heap.size w w') => (areMany_any (.slice (some ⟨bm, om, none⟩) n cm) most n n 0 3 w' (by rw [l1]; exact ⟨_, _, rfl, hcm, hr1.below h⟩)))
  have M2 := hd (fun w' (h : Below w.heap.size w w') => (areMany_any (.slice (some ⟨bk, ok, none⟩) n ck) costs n n 0 1000 w' (by rw [l2]; exact ⟨_, _, rfl, hck, hr2.below h⟩)))
  rw [all_of most 0 3 l1 hm] at M1
  rw [all_of costs 0 1000 l2 hc] at M2
  have WI := hd (fun w' => within_t goal 0 100000 w' (inR_iff.2 ⟨g0, g1⟩))
  have CL := hd (fun w' (h : Below w.heap.size w w') => CloneT_any b 0 c ts n w' (hT.below h))
  have HM := hd (fun i (hi : i < n) => (show w.cell? ⟨bm, om + i, none⟩ = some (.int .i64 (most.getD i 0)) ∧ 0 ≤ most.getD i 0 ∧ most.getD i 0 ≤ 3 from ⟨by obtain ⟨b', o', e, h⟩ := hr1.int hi; cases e; exact h, hm i hi⟩))
  have HC := hd (fun i (hi : i < n) => (show w.cell? ⟨bk, ok + i, none⟩ = some (.int .i64 (costs.getD i 0)) ∧ 0 ≤ costs.getD i 0 ∧ costs.getD i 0 ≤ 1000 from ⟨by obtain ⟨b', o', e, h⟩ := hr2.int hi; cases e; exact h, hc i hi⟩))
  have HTA := hd hT
  have hn5 : decide ((5 : Int) < (n : Int)) = false := decide_eq_false (by omega)
  have hblk := hT.blk
  have HTKZ := hd (shCells_zero hT)
  have HTC := hd hT.cells
  clear hT hm hc hr1 hr2 cm0 ck0 l1 l2 all_of hcm hck g0 g1
  go_enter Try.func12, Try.ntmps12
  go_wp2_with fail
  go_at_call 28
  refine (AT.out _ (by go_grown)).mono ?_
  rintro e w1 ⟨rfl, hb⟩
  have c1T := below_at hb (a := ⟨w.heap.size, 0, none⟩) (v := .slice (some ⟨b, 0, none⟩) n c) (by simp [go_sem])
  have c1M := below_at hb (a := ⟨w.heap.size + 1, 0, none⟩) (v := .slice (some ⟨bm, om, none⟩) n cm) (by simp [go_sem])
  have c1K := below_at hb (a := ⟨w.heap.size + 1 + 1, 0, none⟩) (v := .slice (some ⟨bk, ok, none⟩) n ck) (by simp [go_sem])
  have c1E := below_at hb (a := ⟨w.heap.size + 1 + 1 + 1, 0, none⟩) (v := .int .i64 goal) (by simp [go_sem])
  have c1N := below_at hb (a := ⟨w.heap.size + 1 + 1 + 1 + 1, 0, none⟩) (v := .int .i64 n) (by simp [go_sem])
  have hs1 := hb.size
  simp only [World.size_alloc] at hs1
  have HB1 := hd (show Below w.heap.size w w1 from below_tr hb (by go_grown))
  clear hb
  generalize hxN : w.heap.size + 1 + 1 + 1 + 1 = xN at *
  generalize hxE : w.heap.size + 1 + 1 + 1 = xE at *
  generalize hxK : w.heap.size + 1 + 1 = xK at *
  generalize hxM : w.heap.size + 1 = xM at *
  have HX := hd (show w.heap.size < xM ∧ xM < xK ∧ xK < xE ∧ xE < xN ∧ xN < w1.heap.size by omega)
  clear hxN hxE hxK hxM hs1 AT
  have C1 := hd (And.intro c1T (And.intro c1M (And.intro c1K (And.intro c1E c1N))))
  have cTT := fun X Y => Lib.cell?_alloc_some Y (Lib.cell?_alloc_some X c1T)
  go_wp2_with (first | (go_at_call_has 29 cm; refine (M1.out w1 HB1.out).mono ?_; rintro e w' ⟨rfl, hw⟩; subst hw) | (go_at_call 29; refine (M2.out w1 HB1.out).mono ?_; rintro e w' ⟨rfl, hw⟩; subst hw) | (go_at_call 20; refine (WI.out _).mono ?_; rintro e w' ⟨rfl, hw⟩; replace hw := hw.symm; subst hw))
  clear M1 M2 WI hn5 c1E c1N c1M c1K
  have hsz1 := HX.out
  go_at_call 30
  refine (CL.out _ (below_tr (by go_grown) HB1.out)).mono ?_
  rintro e w2 ⟨gS, cS, rfl, hcS, ho2, hb2⟩
  have HW2 := hd (show Below w.heap.size w ((w1.alloc (.cells #[.slice none 0 0] 27)).alloc (.cells #[.int .i64 0] 2)) from below_tr (by go_grown) HB1.out)
  have hxB := hd (show w2.heap[w1.heap.size]? = some (.cells #[.slice none 0 0] 27 (0, 0)) from (hb2.block _ (by simp; omega)).trans (by rw [heap_alloc_get, if_neg (by simp), heap_alloc_get, if_pos rfl]))
  have hxL := hd (show w2.heap[w1.heap.size + 1]? = some (.cells #[.int .i64 0] 2 (0, 0)) from (hb2.block _ (by simp)).trans (by rw [heap_alloc_get, if_pos (by simp)]))
  have hsh := hd (show tkCells ((w1.alloc (.cells #[.slice none 0 0] 27)).alloc (.cells #[.int .i64 0] 2)) b 0 n = shCells w b 0 n ts fun _ => 0 by
    rw [← HTKZ.out, tkCells, tkCells]
    refine List.map_congr_left fun j hj => ?_
    rw [List.mem_range] at hj
    have hl : j < (tkCells w b 0 n).length := by rw [tkCells_len]; exact hj
    have h1 := HTC.out j _ (List.getElem?_eq_getElem hl)
    rw [h1.1, below_at HW2.out h1.1])
  rw [hsh.out] at ho2
  have HO2 := hd (own_mono ho2 (show w1.heap.size + 2 ≤ _ by simp))
  have hgS := World.ownsRow.lt ho2 gS rfl
  simp only [World.size_alloc] at hgS
  have c2T := below_at hb2 (cTT (.cells #[.slice none 0 0] 27) (.cells #[.int .i64 0] 2))
  have HC2 := hd (show ∀ (a : Addr) (v : Value), w1.cell? a = some v → w2.cell? a = some v from fun a v h => below_at hb2 (Lib.cell?_alloc_some _ (Lib.cell?_alloc_some _ h)))
  have HB2 := hd (show Below w.heap.size w w2 from below_tr hb2 HW2.out)
  have HGS := hd hgS
  clear ho2 hb2 c1T cTT hsh HW2 hgS CL HTKZ HTC hsz1
  have HX2 := hd (show w.heap.size < xM ∧ xM < xK ∧ xK < xE ∧ xE < xN ∧ xN < w1.heap.size ∧ w1.heap.size + 1 < gS ∧ gS < w2.heap.size from ⟨HX.out.1, HX.out.2.1, HX.out.2.2.1, HX.out.2.2.2.1, HX.out.2.2.2.2, by have := HGS.out.1; omega, HGS.out.2⟩)
  obtain ⟨xB, hxb⟩ : ∃ xB, xB = w1.heap.size := ⟨_, rfl⟩
  rw [← hxb] at hxB hxL HX2 HO2
  simp only [← hxb]
  have HXX := hd hxb
  clear hxb HX HGS
  have cNN := fun X => Lib.cell?_alloc_some X (HC2.out _ _ C1.out.2.2.2.2)
  have hgb := HX2.out
  go_wp2_with (first
    | (at_make; go_must (refine wpList_make_int _ rfl _ rfl _ _ n rfl rfl (by omega) ?_); intro w3 ho3 hb3)
    | ((with_reducible refine wpList_store_box _ (w3.heap.size + 1) #[.nilFunc] 46 ?_ size_put 0 (.func (.func 31) #[] #[.pointer (some ⟨xN, 0, none⟩), .pointer (some ⟨w2.heap.size, 0, none⟩), .pointer (some ⟨xE, 0, none⟩), .pointer (some ⟨xB, 0, none⟩), .pointer (some ⟨xB + 1, 0, none⟩), .pointer (some ⟨w3.heap.size, 0, none⟩), .pointer (some ⟨xM, 0, none⟩), .pointer (some ⟨w.heap.size, 0, none⟩), .pointer (some ⟨w3.heap.size + 1, 0, none⟩), .pointer (some ⟨xK, 0, none⟩)]) ?_ ?_ ?_ ?_ ?_); (simp only [heap_alloc_get, World.size_alloc]; simp); exact rfl; exact rfl; exact rfl; exact (show 0 < 1 by decide); intro w5 hx5 hg5; have c5P := (cell_of_row _ _ 0 _ _ _ hx5).trans rfl))
  obtain ⟨k, hk⟩ : ∃ k : HK, k = ⟨w.heap.size, b, c, bm, om, cm, bk, ok, ck, w.heap.size, xM, xK, xE, xN, xB, xB + 1, gS, cS, w2.heap.size, w2.heap.size + 1, w3.heap.size, w3.heap.size + 1, w3.heap.size + 2⟩ := ⟨_, rfl⟩
  have hl3 := (World.ownsRow.lt ho3 _ rfl).2
  simp only [World.size_alloc] at hl3
  have hbA : Below w2.heap.size w2 (w2.alloc (.cells #[.slice (some ⟨gS, 0, none⟩) n cS] 25)) := (Below.refl _ _).alloc (Nat.le_refl _) _
  have hb23 := below_tr hb3 hbA
  have hbB := ((Below.refl w3.heap.size w3).alloc (Nat.le_refl _) (.cells #[.slice (some ⟨w2.heap.size + 1, 0, none⟩) n n] 27)).alloc (by simp) (.cells #[.nilFunc] 46)
  have hb2B := below_tr hbB hb23
  have sB := hbB.size
  simp only [World.size_alloc] at sB
  have LIFT := hd (fun (a : Addr) (v : Value) (h : w2.cell? a = some v) (hlt : a.block < w2.heap.size) => hg5.cell (below_at hb2B h) (by intro e; have := Option.some.inj e; omega))
  have sz5 := hg5.size
  simp only [World.size_alloc] at sz5
  have ord := hd (show k.ord by subst hk; unfold HK.ord; simp only; omega)
  have fx5 := hd (show HFix k w5 n goal by
    subst hk
    have h2 := HC2.out
    have c1 := C1.out
    exact ⟨LIFT.out _ _ (h2 _ _ c1.2.2.2.2) (by simp only; omega), hg5.cell (below_at hbB (below_at hb3 ((World.cell?_alloc_new ..).trans rfl))) (by simp; omega), LIFT.out _ _ (h2 _ _ c1.2.2.2.1) (by simp only; omega), hg5.cell (Lib.cell?_alloc_some _ ((World.cell?_alloc_new ..).trans rfl)) (by simp), LIFT.out _ _ (h2 _ _ c1.2.1) (by simp only; omega), LIFT.out _ _ (h2 _ _ c1.1) (by simp only; omega), c5P, LIFT.out _ _ (h2 _ _ c1.2.2.1) (by simp only; omega)⟩)
  have hB2 := hb2B.block
  have HST := hd (show HSt k w w5 ts n goal (fun _ => 0) (.slice none 0 0) 0 by
    have f5 := fx5.out
    have ord' := ord.out
    subst hk
    refine ⟨f5, (hg5.block xB (by simp; omega) (by simp; omega)).trans ((hB2 xB (by omega)).trans hxB.out), (hg5.block (xB + 1) (by simp; omega) (by simp; omega)).trans ((hB2 (xB + 1) (by omega)).trans hxL.out), ?_, ?_, by simp only; omega⟩
    · refine (own_below (own_mono HO2.out (by simp only; omega)) hb2B).kept hg5 (.inr ?_)
      simp only [Value.ownBlock, Option.map_some, ne_eq, Option.some.injEq]; omega
    · have h3 : w3.ownsRow w.heap.size 2 1 (.slice (some ⟨w2.heap.size + 1, 0, none⟩) n n) n ((fnL n fun _ => 0).map vi) := by
        rw [fnL_zero, List.map_replicate]
        have := own_mono ho3 (show w.heap.size ≤ _ by simp; omega)
        simpa [vi] using this
      refine (own_below h3 hbB).kept hg5 (.inr ?_)
      simp only [Value.ownBlock, Option.map_some, ne_eq, Option.some.injEq]; omega)
  have HB5 := hd (show Below w.heap.size w w5 from below_row hg5 (below_tr hb2B HB2.out) (fun q e => by cases e; omega))
  have X := hput_any k w ts most costs n goal (by subst hk; exact HTA.out) ord.out (by subst hk; rfl) n5 (by subst hk; exact HM.out) (by subst hk; exact HC.out) n 0 (by omega) 0 w5 (fun _ => 0) (.slice none 0 0) 0 (by subst hk; exact HB5.out) HST.out (fun j hj => by omega) (by rw [Nat.mul_zero]; exact ⟨rfl, rfl⟩)
  rw [Nat.mul_zero, restP_all] at X
  have X2 : Calls Try.prog 31 #[.int .i64 0, .int .i64 0, .pointer (some ⟨xN, 0, none⟩), .pointer (some ⟨w2.heap.size, 0, none⟩), .pointer (some ⟨xE, 0, none⟩), .pointer (some ⟨xB, 0, none⟩), .pointer (some ⟨xB + 1, 0, none⟩), .pointer (some ⟨w3.heap.size, 0, none⟩), .pointer (some ⟨xM, 0, none⟩), .pointer (some ⟨w.heap.size, 0, none⟩), .pointer (some ⟨w3.heap.size + 1, 0, none⟩), .pointer (some ⟨xK, 0, none⟩)] w5 (HOut k w ts most costs n goal 0 0 (prodR (limR ts most n)) w5) := by subst hk; exact X
  have EK := hd (show k.xB = xB ∧ k.xL = xB + 1 ∧ k.B = w.heap.size by subst hk; exact ⟨rfl, rfl, rfl⟩)
  clear hl3 hbA hb23 hbB hb2B sB LIFT sz5 fx5 hB2 HST hx5 hg5 ho3 hb3 HO2 HC2 C1 hxB hxL HM HC HTA cNN c2T hgb X hk c5P
  refine X2.mono ?_
  rintro e w6 ⟨⟨z, rfl⟩, v, V, l, _, hs6, hbe6, hb6, hz6⟩
  rw [EK.out.2.2] at hb6
  have hv := hs6.hB
  have hl := hs6.hL
  rw [EK.out.1] at hv
  rw [EK.out.2.1] at hl
  have cV := (cell_of_row _ _ 0 _ _ _ hv).trans rfl
  have cL := (cell_of_row _ _ 0 _ _ _ hl).trans rfl
  rw [Nat.zero_add] at hbe6
  have hix : hIx ts most costs n goal = hB (hOk ts most n goal) (fun t => hCo ts most costs n t n) (prodR (limR ts most n)) := rfl
  rw [← hix] at hbe6
  have ordk := ord.out
  unfold HK.ord at ordk
  have hB1 : w.heap.size ≤ k.B1 := by have := EK.out.2.2; omega
  have HB6 := hd hb6
  clear X2 hs6 hv hl hix ord ordk EK hb6 hz6 HB5
  cases hr : hIx ts most costs n goal with
  | none =>
    rw [hr] at hbe6
    obtain ⟨rfl, rfl⟩ := hbe6
    have he : ∀ w : World, (binOp .neq 27 (.slice none 0 0) (.slice none 0 0)).run Try.prog w = .ok (.bool false) w := fun _ => rfl
    have HR := hd hr
    clear hr
    go_wp2_with fail
    go_quiet (fail)
    go_wp2
    go_ret3
    exact ⟨below_drewN HB6.out nq, by rw [HR.out]; exact rfl⟩
  | some t =>
    rw [hr] at hbe6
    obtain ⟨rfl, gb, cb, rfl, hob⟩ := hbe6
    have he : ∀ w : World, (binOp .neq 27 (.slice (some ⟨gb, 0, none⟩) n cb) (.slice none 0 0)).run Try.prog w = .ok (.bool true) w := fun _ => rfl
    have HR := hd hr
    have HOB := hd (own_mono hob hB1)
    clear hr hob
    go_wp2_with fail
    go_quiet (fail)
    go_wp2
    go_ret3
    exact ⟨below_drewN HB6.out nq, by rw [HR.out]; exact ⟨_, rfl, HOB.out⟩⟩
end Go.Proofs.Ytdbojkanelmlkaa
