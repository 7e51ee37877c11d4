/- The best turns of a shop: the contract of BestShop. -/
import Derived.Test.YtkaopdpdfbkchaaShpS
namespace Go.Proofs.Ytkaopdpdfbkchaa
open Go.RowKit Plain
set_option linter.unusedVariables false
set_option linter.unusedSimpArgs false
attribute [local go_sem ↓] Go.wp_at_zero Go.wp_at_succ
/-- what the call gives -/
def BestOut (m n s : Nat) (ro t : Nat → Nat) (w : World) (r : Ending) (w' : World) : Prop :=
  ∃ g cap L l, r = .returned (.tuple #[.slice (some ⟨g, 0, none⟩) s cap, .int .i64 (l : Nat), .bool true]) ∧ OwnE 2 w' w.heap.size g s cap (lf L) ∧ FullR m n L ∧ EndR m (runR m ro t L).F l ∧ (∀ E, FullR m n E → ∀ M, EndR m (runR m ro t E).F M → l ≤ M) ∧ Below w.heap.size w w'
theorem size_fs : (Try.prog.info? 58).map (·.size) = some 1 := by kernel_rfl
set_option maxRecDepth 100000 in
set_option maxHeartbeats 8000000 in
theorem BestShop_any (b2 c2 b c m n s : Nat) (ro t : Nat → Nat) (E0 : List Nat) (hE0 : FullR m n E0) (w : World) (hr : RtT w b2 c2 m n s ro) (h : ShT w b c m n s t) :
    Calls Try.prog 13 #[.slice (some ⟨b2, 0, none⟩) s c2, .slice (some ⟨b, 0, none⟩) s c, .int .i64 m] w (BestOut m n s ro t w) := by
  have RO := hd (fun (w' : World) (hb : Below w.heap.size w w') => routed_any b2 c2 b c m n s ro t w' (hr.below hb) (h.below hb))
  have m1 := h.k.m1
  have m3 := h.k.m3
  have n1 := h.k.n1
  have n4 := h.k.n4
  have s8 := h.k.s8
  have s1 := h.k.s1
  have SM := hd (fun (w' : World) => steps_any b c b2 c2 m n s (by omega) (by omega) w')
  have hbw : b < w.heap.size := block_lt_of_cell (h.f.cl 0 (by omega))
  have hbw2 : b2 < w.heap.size := block_lt_of_cell (hr.f.cl 0 (by omega))
  have HR := hd hr
  have HS := hd h
  have HE0 := hd hE0
  have hs8' : ¬ (s : Int) > 8 := by omega
  clear hr h hE0
  unfold shV at RO SM
  go_enter Try.func13, Try.ntmps13
  go_upto_region 1 with fail
  obtain ⟨N, hN⟩ : ∃ N, N = w.heap.size := ⟨_, rfl⟩
  obtain ⟨w1, hw1⟩ : ∃ w1, w1 = (w.alloc (.cells #[.slice (some ⟨b2, 0, none⟩) s c2] 25)).alloc (.cells #[.slice (some ⟨b, 0, none⟩) s c] 25) := ⟨_, rfl⟩
  have H3 := hd (show w1.heap[N]? = some (.cells #[.slice (some ⟨b2, 0, none⟩) s c2] 25 (0, 0)) by rw [hw1, hN, heap_alloc_get, if_neg (by simp)]; exact heap_alloc_new _ _)
  have H4 := hd (show w1.heap[N + 1]? = some (.cells #[.slice (some ⟨b, 0, none⟩) s c] 25 (0, 0)) by rw [hw1, hN, heap_alloc_get, if_pos (by simp)])
  have HB1 := hd (show Below w.heap.size w w1 by rw [hw1]; go_grown)
  have hsz1 : w1.heap.size = N + 2 := by rw [hw1, hN]; simp
  rw [← hN]
  rw [← hw1]
  have HN := hd hN
  have HSZ1 := hd hsz1
  clear hw1 hN hsz1
  have c3 : w1.cell? ⟨N, 0, none⟩ = some (.slice (some ⟨b2, 0, none⟩) s c2) := cell_of_row w1 N 0 _ _ _ H3.out
  have c4 : w1.cell? ⟨N + 1, 0, none⟩ = some (.slice (some ⟨b, 0, none⟩) s c) := cell_of_row w1 (N + 1) 0 _ _ _ H4.out
  go_wp2_with fail
  go_at_call 23
  refine (RO.out _ HB1.out).mono ?_; rintro e w' ⟨rfl, hb⟩
  clear RO c3
  have c4' := fun X => below_at ((Below.refl _ w').alloc (Nat.le_refl _) X) (below_at hb c4)
  clear c4
  go_upto_region 8 with fail
  clear c4'
  obtain ⟨x9, h9⟩ : ∃ x9, x9 = w'.heap.size := ⟨_, rfl⟩
  obtain ⟨xB, hxB⟩ : ∃ xB, xB = w'.heap.size + 1 := ⟨_, rfl⟩
  obtain ⟨xL, hxL⟩ : ∃ xL, xL = w'.heap.size + 1 + 1 := ⟨_, rfl⟩
  obtain ⟨gT, hgT⟩ : ∃ gT, gT = w'.heap.size + 1 + 1 + 1 := ⟨_, rfl⟩
  obtain ⟨xT, hxT⟩ : ∃ xT, xT = w'.heap.size + 1 + 1 + 1 + 1 := ⟨_, rfl⟩
  obtain ⟨x7, hx7⟩ : ∃ x7, x7 = w'.heap.size + 1 + 1 + 1 + 1 + 1 := ⟨_, rfl⟩
  obtain ⟨wa, hwa⟩ : ∃ wa, wa = w'.alloc (.cells #[.slice (some ⟨b, 0, none⟩) s c, .int .i64 n, .int .i64 m] 42) := ⟨_, rfl⟩
  obtain ⟨wb, hwb⟩ : ∃ wb, wb = wa.alloc (.cells #[.slice none 0 0] 25) := ⟨_, rfl⟩
  obtain ⟨wc, hwc⟩ : ∃ wc, wc = wb.alloc (.cells #[.int .i64 0] 2) := ⟨_, rfl⟩
  obtain ⟨wd, hwd⟩ : ∃ wd, wd = wc.alloc (.cells #[] 2) := ⟨_, rfl⟩
  obtain ⟨we, hwe⟩ : ∃ we, we = wd.alloc (.cells #[.slice (some ⟨gT, 0, none⟩) 0 0] 25) := ⟨_, rfl⟩
  obtain ⟨wf, hwf⟩ : ∃ wf, wf = we.alloc (.cells #[.nilFunc] 58) := ⟨_, rfl⟩
  have sa : wa.heap.size = w'.heap.size + 1 := by rw [hwa]; simp
  have sb : wb.heap.size = w'.heap.size + 1 + 1 := by rw [hwb]; simp [sa]
  have sc : wc.heap.size = w'.heap.size + 1 + 1 + 1 := by rw [hwc]; simp [sb]
  have sd : wd.heap.size = w'.heap.size + 1 + 1 + 1 + 1 := by rw [hwd]; simp [sc]
  have se : we.heap.size = w'.heap.size + 1 + 1 + 1 + 1 + 1 := by rw [hwe]; simp [sd]
  have sf : wf.heap.size = w'.heap.size + 1 + 1 + 1 + 1 + 1 + 1 := by rw [hwf]; simp [se]
  have ba : Below wa.heap.size wa wf := by rw [hwf, hwe, hwd, hwc, hwb]; go_grown
  have bb : Below wb.heap.size wb wf := by rw [hwf, hwe, hwd, hwc]; go_grown
  have bc : Below wc.heap.size wc wf := by rw [hwf, hwe, hwd]; go_grown
  have bd : Below wd.heap.size wd wf := by rw [hwf, hwe]; go_grown
  have be : Below we.heap.size we wf := by rw [hwf]; go_grown
  have b0 : Below w'.heap.size w' wf := below_tr ba (by rw [hwa]; exact (Below.refl _ _).alloc (Nat.le_refl _) _)
  have f9 : wf.heap[x9]? = some (.cells #[.slice (some ⟨b, 0, none⟩) s c, .int .i64 n, .int .i64 m] 42 (0, 0)) := (ba.block x9 (by omega)).trans (by rw [hwa, h9]; exact heap_alloc_new _ _)
  have fB : wf.heap[xB]? = some (.cells #[.slice none 0 0] 25 (0, 0)) := (bb.block xB (by omega)).trans (by rw [hwb, hxB, ← sa]; exact heap_alloc_new _ _)
  have fL : wf.heap[xL]? = some (.cells #[.int .i64 0] 2 (0, 0)) := (bc.block xL (by omega)).trans (by rw [hwc, hxL, ← sb]; exact heap_alloc_new _ _)
  have fT : wf.heap[xT]? = some (.cells #[.slice (some ⟨gT, 0, none⟩) 0 0] 25 (0, 0)) := (be.block xT (by omega)).trans (by rw [hwe, hxT, ← sd]; exact heap_alloc_new _ _)
  have f7 : wf.heap[x7]? = some (.cells #[.nilFunc] 58 (0, 0)) := by rw [hwf, hx7, ← se]; exact heap_alloc_new _ _
  have fG : OwnE 2 wf gT gT 0 0 (lf []) := by
    have h := World.ownsRow_made (base := gT) (size := 1) wc #[] 0 (by omega) (by unfold maxLen; omega) rfl (e := 2)
    rw [← hwd, show wc.heap.size = gT by omega] at h
    exact own_below h bd
  have ord : x9 = w'.heap.size ∧ xB = x9 + 1 ∧ xL = xB + 1 ∧ gT = xL + 1 ∧ xT = gT + 1 ∧ x7 = xT + 1 ∧ wf.heap.size = x7 + 1 := ⟨h9, by omega, by omega, by omega, by omega, by omega, by omega⟩
  have hsw := hb.size
  have HF := hd (And.intro f9 (And.intro fB (And.intro fL (And.intro fT (And.intro f7 fG)))))
  have HOR := hd ord
  have HBF := hd (show Below w.heap.size w wf from HB1.out.trans ((hb.trans (b0.mono hb.size)).mono HB1.out.size))
  have HB1F := hd (show Below w1.heap.size w1 wf from hb.trans (b0.mono hb.size))
  rw [← hgT, ← hwa]
  rw [← hwb]
  rw [← hwc]
  rw [← hwd]
  rw [← hwe]
  rw [← hwf]
  rw [show gT + 1 + 1 = x7 by omega, show gT + 1 = xT by omega, ← hxL, ← hxB, ← h9]
  clear h9 hxB hxL hgT hxT hx7 hwa hwb hwc hwd hwe hwf sa sb sc sd se sf ba bb bc bd be b0 f9 fB fL fT f7 fG hb ord
  have HX7 := hd HF.out.2.2.2.2.1
  go_wp2_with ((with_reducible refine wpList_store_box _ x7 #[.nilFunc] 58 HX7.out size_fs 0 (BK.fv ⟨b, c, b2, c2, m, n, s, xT, N + 1, xB, xL, x9, N, x7, x7 + 1, gT⟩) ?_ ?_ ?_ ?_ ?_); exact rfl; exact rfl; exact rfl; exact Nat.one_pos; intro w5 hx5 hg5)
  obtain ⟨o1, o2, o3, o4, o5, o6, o7⟩ := HOR.out
  have hnw : N = w.heap.size := HN.out
  have hn1 : w1.heap.size = N + 2 := HSZ1.out
  have hK5 : KeepX (fun i => i = x7) wf w5 := KeepX.of_grown hg5
  have hB5 : Below w.heap.size w w5 := hK5.below HBF.out (fun i h => by omega)
  have hB15 : Below w1.heap.size w1 w5 := hK5.below HB1F.out (fun i h => by omega)
  obtain ⟨f9, fB, fL, fT, f7, fG⟩ := HF.out
  have hE5 : BEnv ⟨b, c, b2, c2, m, n, s, xT, N + 1, xB, xL, x9, N, x7, x7 + 1, gT⟩ w5 t ro := ⟨HS.out.below hB5, HR.out.below hB5, (hB15.block (N + 1) (by omega)).trans H4.out, (hB15.block N (by omega)).trans H3.out, hK5.heap f9 (show ¬ x9 = x7 by omega), hx5⟩
  have hO5 : BOrd ⟨b, c, b2, c2, m, n, s, xT, N + 1, xB, xL, x9, N, x7, x7 + 1, gT⟩ := ⟨⟨by show b < gT; omega, by show b2 < gT; omega, by show N + 1 < gT; omega, by show N < gT; omega, by show x9 < gT; omega, by show xB < gT; omega, by show xL < gT; omega⟩, by show gT ≤ x7 + 1; omega,
    ⟨by show b < x7 + 1; omega, by show b2 < x7 + 1; omega, by show N + 1 < x7 + 1; omega, by show N < x7 + 1; omega, by show x9 < x7 + 1; omega, by show x7 < x7 + 1; omega, by show xT < x7 + 1; omega, by show xB < x7 + 1; omega, by show xL < x7 + 1; omega⟩,
    ⟨by show b ≠ xT; omega, by show b2 ≠ xT; omega, by show N + 1 ≠ xT; omega, by show N ≠ xT; omega, by show x9 ≠ xT; omega, by show x7 ≠ xT; omega, by show xB ≠ xT; omega, by show xL ≠ xT; omega⟩,
    ⟨by show b ≠ xB; omega, by show b2 ≠ xB; omega, by show N + 1 ≠ xB; omega, by show N ≠ xB; omega, by show x9 ≠ xB; omega, by show x7 ≠ xB; omega, by show xL ≠ xB; omega⟩,
    ⟨by show b ≠ xL; omega, by show b2 ≠ xL; omega, by show N + 1 ≠ xL; omega, by show N ≠ xL; omega, by show x9 ≠ xL; omega, by show x7 ≠ xL; omega⟩⟩
  have hS5 : BSt ⟨b, c, b2, c2, m, n, s, xT, N + 1, xB, xL, x9, N, x7, x7 + 1, gT⟩ w5 [] gT 0 none 0 := ⟨hK5.heap fT (show ¬ xT = x7 by omega), hK5.own fG (show ¬ gT = x7 by omega), ⟨by show gT ≠ xT; omega, by show gT ≠ x7; omega⟩, hK5.heap fL (show ¬ xL = x7 by omega), hK5.heap fB (show ¬ xB = x7 by omega)⟩
  have hsz5 : x7 < w5.heap.size := (Array.getElem?_eq_some_iff.1 hx5).1
  have HE5 := hd hE5
  have HO5 := hd hO5
  have HS5 := hd hS5
  have HB5 := hd hB5
  have HSZ5 := hd hsz5
  have HPT := hd (fun (gN gJ gF : Nat) (wS : World) (hbS : Below w5.heap.size w5 wS) (hst : StO ⟨b, c, b2, c2, m, n, s, gN, gJ, gF, n, n, m⟩ wS w5.heap.size (fun _ => 0) (fun _ => 0) (fun _ => 0)) => put_any ⟨b, c, b2, c2, m, n, s, xT, N + 1, xB, xL, x9, N, x7, x7 + 1, gT⟩ t ro hO5 s ⟨b, c, b2, c2, m, n, s, gN, gJ, gF, n, n, m⟩ [] w5.heap.size gT 0 none 0 wS (by show 0 + s = s; omega) ⟨(fun j hj => by cases hj), fun j => Nat.zero_le _⟩ (hE5.below hbS) (hS5.below hbS) ⟨⟨rfl, rfl, rfl, rfl, rfl, rfl, rfl⟩, ⟨by have h : w5.heap.size ≤ gN := own_row hst.oN (Nat.le_refl _) _ rfl; show gN ≠ gT; omega, by have h : w5.heap.size ≤ gJ := own_row hst.oJ (Nat.le_refl _) _ rfl; show gJ ≠ gT; omega, by have h : w5.heap.size ≤ gF := own_row hst.oF (Nat.le_refl _) _ rfl; show gF ≠ gT; omega⟩⟩ (show x7 + 1 ≤ w5.heap.size from hsz5) hst (fun L l h => by cases h))
  clear hE5 hO5 hS5 hB5 hK5 hB15 f9 fB fL fT f7 fG hx5 hg5 HF HX7 hnw hn1 hsz5 o1 o2 o3 o4 o5 o6 o7
  unfold StK.V at HPT SM
  simp only at HPT SM
  have keepE := hd (fun (W : World) (hE : BEnv ⟨b, c, b2, c2, m, n, s, xT, N + 1, xB, xL, x9, N, x7, x7 + 1, gT⟩ W t ro) => show W.cell? ⟨x7, 0, none⟩ = some (BK.fv ⟨b, c, b2, c2, m, n, s, xT, N + 1, xB, xL, x9, N, x7, x7 + 1, gT⟩) ∧ (W.cell? ⟨x9, 0, none⟩ = some (.slice (some ⟨b, 0, none⟩) s c) ∧ W.cell? ⟨x9, 1, none⟩ = some (.int .i64 n) ∧ W.cell? ⟨x9, 2, none⟩ = some (.int .i64 m)) ∧ W.cell? ⟨N, 0, none⟩ = some (.slice (some ⟨b2, 0, none⟩) s c2) from
    ⟨cell_of_row W x7 0 _ _ _ hE.h7, three_cells hE.h9, cell_of_row W N 0 _ _ _ hE.h3⟩)
  unfold BK.fv at keepE
  go_region_held3 (fun W => W.cell? ⟨x7, 0, none⟩ = some (.func (.func 28) #[] #[.pointer (some ⟨xT, 0, none⟩), .pointer (some ⟨N + 1, 0, none⟩), .pointer (some ⟨xB, 0, none⟩), .pointer (some ⟨xL, 0, none⟩), .pointer (some ⟨x9, 0, none⟩), .pointer (some ⟨N, 0, none⟩), .pointer (some ⟨x7, 0, none⟩)]) ∧ (W.cell? ⟨x9, 0, none⟩ = some (.slice (some ⟨b, 0, none⟩) s c) ∧ W.cell? ⟨x9, 1, none⟩ = some (.int .i64 n) ∧ W.cell? ⟨x9, 2, none⟩ = some (.int .i64 m)) ∧ W.cell? ⟨N, 0, none⟩ = some (.slice (some ⟨b2, 0, none⟩) s c2))
    (first | exact keepE.out _ (HE5.out.below (Below.refl _ w5).drew) | exact keepE.out _ HES.out | exact keepE.out _ HEP.out)
    (first
      | (go_simp; go_at_call 25; refine (SM.out _).mono ?_; rintro e wS ⟨gN, gJ, gF, rfl, hst, hbS⟩; have HBS := hd (show Below w5.heap.size w5 wS from below_tr hbS (Below.refl _ w5).drew); have HES := hd (HE5.out.below HBS.out); have HPC := hd (HPT.out gN gJ gF wS HBS.out hst); clear hst hbS)
      | (go_simp; go_at_call 28; refine HPC.out.mono ?_; rintro e wP ⟨⟨z9, rfl⟩, hkP, gT6, cT6, o6, lv6, hs6, hg6, hok6, hle6, hcv6⟩; have HEP := hd (HES.out.keep hkP HO5.out ⟨Nat.le_refl _, by have ho := HOR.out; show gT ≠ x7; omega⟩)))
  have hk0 := KeepX.from HBS.out hkP
  have hBP : Below w.heap.size w wP := hk0.below HB5.out (fun i h => by
    have ho := HOR.out
    have h1 := HN.out
    have h2 := HSZ1.out
    rcases h with h | h | h | h
    · have h9 : i = xT := h; omega
    · have h9 : i = xB := h; omega
    · have h9 : i = xL := h; omega
    · have h9 : i = gT := h; omega)
  obtain ⟨Lb, lb, ho6, hmin⟩ := hcv6 E0 HE0.out
  subst ho6
  obtain ⟨rfl, gB, cB, hxB9, hoB, hne⟩ := hs6.be
  obtain ⟨hFb, hEb⟩ := hok6 Lb lb rfl
  have hall : ∀ E, FullR m n E → ∀ M, EndR m (runR m ro t E).F M → lb ≤ M := fun E hE M hM => by
    obtain ⟨L', l', he, h1⟩ := hcv6 E hE
    cases he
    exact h1 M hM
  have HALL := hd hall
  have HFB := hd hFb
  have HEB := hd hEb
  have HBP := hd hBP
  have HOB := hd (show OwnE 2 wP w.heap.size gB s cB (lf Lb) from own_mono hoB (by have ho := HOR.out; have h1 := HN.out; have h2 := HSZ1.out; show w.heap.size ≤ x7 + 1; omega))
  have cB9 : wP.cell? ⟨xB, 0, none⟩ = some (.slice (some ⟨gB, 0, none⟩) s cB) := cell_of_row wP xB 0 _ _ _ hxB9
  have cL9 : wP.cell? ⟨xL, 0, none⟩ = some (.int .i64 (lb : Int)) := cell_of_row wP xL 0 _ _ _ hs6.hL
  clear hk0 hkP hBP hcv6 hmin hs6 hxB9 hoB hne hok6 hle6 hall hFb hEb HPC hg6
  go_wp2
  refine wp_region_quiet_lit (by kernel_rfl) (by kernel_rfl) ?_
  go_big_quiet_step (fail); go_big_quiet_step (fail); go_big_quiet_step (fail); go_big_quiet_step (fail); go_big_quiet_step (fail)
  refine wpQuiet_nil ?_; intro _ hw'; obtain ⟨nq, hw''⟩ := hw'; subst hw''
  go_wp2
  go_ret3
  exact ⟨gB, cB, Lb, lb, rfl, HOB.out, HFB.out, HEB.out, HALL.out, below_drewN HBP.out _⟩
end Go.Proofs.Ytkaopdpdfbkchaa
