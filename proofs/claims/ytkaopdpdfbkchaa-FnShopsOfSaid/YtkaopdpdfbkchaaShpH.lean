/- One turn of a shop's run: the contract. -/
import Derived.Test.YtkaopdpdfbkchaaShpG
import Derived.Test.YtkaopdpdfbkchaaFrmX
namespace Go.Proofs.Ytkaopdpdfbkchaa
open Go.RowKit Plain
set_option linter.unusedVariables false
set_option linter.unusedSimpArgs false
attribute [local go_sem ↓] Go.wp_at_zero Go.wp_at_succ
/-- the shop, its times and routes, at the state's places -/
structure StP (k : StK) (w : World) (t ro : Nat → Nat) : Prop where
  T : ShT w k.b k.c k.m k.n k.s t
  R : RtT w k.b2 k.c2 k.m k.n k.s ro
  d1 : k.b ≠ k.gN ∧ k.b ≠ k.gJ ∧ k.b ≠ k.gF
  d2 : k.b2 ≠ k.gN ∧ k.b2 ≠ k.gJ ∧ k.b2 ≠ k.gF
/-- what the turn leaves -/
def TurnOut (k : StK) (base : Nat) (t ro N J F : Nat → Nat) (j : Nat) (w : World) (r : Ending) (w' : World) : Prop :=
  r = .returned (.tuple #[.int .i64 ((j * k.m + N j : Nat) : Int), .int .i64 ((max (J j) (F (ro (j * k.m + N j))) : Nat) : Int)]) ∧
  StO k w' base (fun i => if i = j then N j + 1 else N i) (fun i => if i = j then max (J j) (F (ro (j * k.m + N j))) + t (j * k.m + N j) else J i) (fun i => if i = ro (j * k.m + N j) then max (J j) (F (ro (j * k.m + N j))) + t (j * k.m + N j) else F i) ∧
  KeepX (fun i => i = k.gN ∨ i = k.gJ ∨ i = k.gF) w w'
theorem size_intI : (Try.prog.info? 3).map (·.size) = some 1 := by kernel_rfl
set_option maxRecDepth 100000 in
set_option maxHeartbeats 4000000 in
theorem turn_any (k : StK) (base : Nat) (t ro N J F : Nat → Nat) (j : Nat) (w : World) (hP : StP k w t ro) (hO : StO k w base N J F) (hj : j < k.n) (hN : N j < k.m) (hJ : ∀ i, J i ≤ 1000) (hF : ∀ i, F i ≤ 1000) :
    Calls Try.prog 26 #[k.V, .int .i64 j] w (TurnOut k base t ro N J F j w) := by
  obtain ⟨b, c, b2, c2, m, n, s, gN, gJ, gF, kN, kJ, kF⟩ := k
  simp only at hN hj
  have hK : ShK m n s := hP.T.k
  have hxs : j * m + N j < s := by rw [hK.e]; exact row_lt hj hN
  have m1 := hK.m1
  have m3 := hK.m3
  have n4 := hK.n4
  have s8 := hK.s8
  have hk : ro (j * m + N j) < m := (hP.R.p j hj).lt (N j) hN
  have ht9 : t (j * m + N j) ≤ 9 := (hP.T.r _ hxs).2
  have hpm : j * m ≤ 8 := by omega
  obtain ⟨p, hp⟩ : ∃ p, p = j * m := ⟨_, rfl⟩
  have hp2 : (j : Int) * m = p := by rw [hp]; push_cast; rfl
  rw [← hp] at hk ht9 hxs hpm
  have HQ := hd (show j * m = p from hp.symm)
  clear hp
  unfold TurnOut
  simp only [HQ.out]
  clear HQ
  obtain ⟨x, hx⟩ : ∃ x, x = p + N j := ⟨_, rfl⟩
  rw [← hx] at hk ht9 hxs ⊢
  have hx2 : IntKind.i64.wrap ((p : Int) + (N j : Int)) = (x : Int) := by rw [hx]; push_cast; exact IntWalk.i64_in _ (by omega)
  have hNj : N j ≤ 3 := by omega
  clear hx
  have cN : w.cell? ⟨gN, j, none⟩ = some (.int .i64 (natF N j)) := hO.oN.at hj
  have cJ : w.cell? ⟨gJ, j, none⟩ = some (.int .i64 (natF J j)) := hO.oJ.at hj
  have cF : w.cell? ⟨gF, ro x, none⟩ = some (.int .i64 (natF F (ro x))) := hO.oF.at hk
  have cT : w.cell? ⟨b, 0 + x, none⟩ = some (.int .i64 (natF t x)) := hP.T.f.cl x hxs
  have cR : w.cell? ⟨b2, 0 + x, none⟩ = some (.int .i64 (natF ro x)) := hP.R.f.cl x hxs
  rw [Nat.zero_add] at cT cR
  unfold natF at cN cJ cF cT cR
  have hJ1 := hJ j
  have hF1 := hF (ro x)
  have HO := hd hO
  have HP := hd hP
  clear hO hP hJ hF
  obtain ⟨kx, hkx⟩ : ∃ kx, kx = ro x := ⟨_, rfl⟩
  rw [← hkx] at hk cR cF hF1 ⊢
  clear hkx
  obtain ⟨at', hat⟩ : ∃ a, a = max (J j) (F kx) := ⟨_, rfl⟩
  have hmx := fun ts ty w => run_max_s ts ty (J j) (F kx) w
  rw [← hat] at hmx ⊢
  have hat1 : at' ≤ 1000 := by omega
  have wp1 : IntKind.i64.wrap (p : Int) = (p : Int) := IntWalk.i64_in _ (by omega)
  have wn1 : IntKind.i64.wrap ((N j : Int) + 1) = (N j : Int) + 1 := IntWalk.i64_in _ (by omega)
  have we : IntKind.i64.wrap ((at' : Int) + (t x : Int)) = ((at' + t x : Nat) : Int) := by rw [IntWalk.i64_in _ (by omega)]; push_cast; rfl
  have hjn : (j : Int) < (n : Int) := by omega
  have hkm : (kx : Int) < (m : Int) := by omega
  have hxm : (x : Int) < (s : Int) := by omega
  clear hat
  obtain ⟨en, hen⟩ : ∃ en, en = at' + t x := ⟨_, rfl⟩
  rw [← hen] at we ⊢
  clear hen ht9
  unfold StK.V
  go_enter Try.func26, Try.ntmps26
  go_wp2_with fail
  obtain ⟨g, hg⟩ : ∃ g, g = w.heap.size := ⟨_, rfl⟩
  obtain ⟨w1, hw1⟩ : ∃ w1, w1 = w.alloc (.cells #[.slice (some ⟨b, 0, none⟩) s c, .int .i64 n, .int .i64 m, .slice (some ⟨b2, 0, none⟩) s c2, .slice (some ⟨gN, 0, none⟩) n kN, .slice (some ⟨gJ, 0, none⟩) n kJ, .slice (some ⟨gF, 0, none⟩) m kF] 54) := ⟨_, rfl⟩
  have hh : w1.heap[g]? = some (.cells #[.slice (some ⟨b, 0, none⟩) s c, .int .i64 n, .int .i64 m, .slice (some ⟨b2, 0, none⟩) s c2, .slice (some ⟨gN, 0, none⟩) n kN, .slice (some ⟨gJ, 0, none⟩) n kJ, .slice (some ⟨gF, 0, none⟩) m kF] 54 (0, 0)) := by rw [hw1, hg]; exact heap_alloc_new _ _
  have hb1 : Below w.heap.size w w1 := by rw [hw1]; go_grown
  have HG := hd hg
  rw [← hg]
  rw [← hw1]
  clear hw1 hg
  have e0 : w1.cell? ⟨g, 0, none⟩ = some (.slice (some ⟨b, 0, none⟩) s c) := (cell_of_row _ g 0 _ _ _ hh).trans rfl
  have e2 : w1.cell? ⟨g, 2, none⟩ = some (.int .i64 m) := (cell_of_row _ g 2 _ _ _ hh).trans rfl
  have e3 : w1.cell? ⟨g, 3, none⟩ = some (.slice (some ⟨b2, 0, none⟩) s c2) := (cell_of_row _ g 3 _ _ _ hh).trans rfl
  have e4 : w1.cell? ⟨g, 4, none⟩ = some (.slice (some ⟨gN, 0, none⟩) n kN) := (cell_of_row _ g 4 _ _ _ hh).trans rfl
  have e5 : w1.cell? ⟨g, 5, none⟩ = some (.slice (some ⟨gJ, 0, none⟩) n kJ) := (cell_of_row _ g 5 _ _ _ hh).trans rfl
  have e6 : w1.cell? ⟨g, 6, none⟩ = some (.slice (some ⟨gF, 0, none⟩) m kF) := (cell_of_row _ g 6 _ _ _ hh).trans rfl
  replace cN := below_at hb1 cN
  replace cJ := below_at hb1 cJ
  replace cF := below_at hb1 cF
  replace cT := below_at hb1 cT
  replace cR := below_at hb1 cR
  have HB1 := hd hb1
  have HH := hd hh
  clear hb1 hh
  refine wp_region_quiet_lit (by kernel_rfl) (by kernel_rfl) ?_
  go_big_quiet_step (fail); go_big_quiet_step (fail); go_big_quiet_step (fail); go_big_quiet_step (fail); go_big_quiet_step (fail); go_big_quiet_step (fail)
  go_big_quiet_step (fail); go_big_quiet_step (fail); go_big_quiet_step (fail); go_big_quiet_step (fail); go_big_quiet_step (fail); go_big_quiet_step (fail)
  refine wpQuiet_nil ?_; intro _ hw'; obtain ⟨nq, hw''⟩ := hw'; subst hw''
  rename Nat => q1
  go_wp2
  refine wp_region_quiet_lit (by kernel_rfl) (by kernel_rfl) ?_
  go_big_quiet_step (fail); go_big_quiet_step (fail); go_big_quiet_step (fail); go_big_quiet_step (fail); go_big_quiet_step (fail); go_big_quiet_step (fail)
  go_big_quiet_step (fail); go_big_quiet_step (fail); go_big_quiet_step (fail); go_big_quiet_step (fail); go_big_quiet_step (fail); go_big_quiet_step (fail)
  refine wpQuiet_nil ?_; intro _ hw'; obtain ⟨nq, hw''⟩ := hw'; subst hw''
  clear hmx cJ cF
  obtain ⟨W, hW⟩ : ∃ W, W = (w1.drewN q1).drewN nq := ⟨_, rfl⟩
  have HBW := hd (show Below w1.heap.size w1 W by rw [hW]; exact below_drewN (below_drewN (Below.refl _ _) _) _)
  rw [← hW]
  clear hW
  replace e0 := below_at HBW.out e0
  replace e4 := below_at HBW.out e4
  replace e5 := below_at HBW.out e5
  replace e6 := below_at HBW.out e6
  replace cN := below_at HBW.out cN
  replace cT := below_at HBW.out cT
  clear e2 e3 cR hp2 hx2 wp1
  have hbW : Below w.heap.size w W := HB1.out.trans (HBW.out.mono HB1.out.size)
  have HOW := hd (show OwnE 3 W base gN n kN (natF N) from own_below HO.out.oN hbW)
  have HJW := hd (show OwnE 2 W base gJ n kJ (natF J) from own_below HO.out.oJ hbW)
  have HFW := hd (show OwnE 2 W base gF m kF (natF F) from own_below HO.out.oF hbW)
  have hgN : gN < w.heap.size := block_lt_of_cell (HO.out.oN.at hj)
  have hgJ : gJ < w.heap.size := block_lt_of_cell (HO.out.oJ.at hj)
  have hgF : gF < w.heap.size := block_lt_of_cell (HO.out.oF.at hk)
  have hne1 : g ≠ gN := by have := HG.out; omega
  have hne2 : g ≠ gJ := by have := HG.out; omega
  have hne3 : g ≠ gF := by have := HG.out; omega
  have hd1 : b ≠ gN := HP.out.d1.1
  have HBw := hd hbW
  clear hbW
  go_wp2_with ((with_reducible refine wpList_store_own _ base 3 1 n kN gN _ HOW.out size_intI j (.int .i64 ((N j : Int) + 1)) ?_ ?_ ?_ ?_ ?_); exact rfl; exact rfl; exact rfl; omega; intro w7 ho7 hg7; replace e0 := hg7.cell e0 (by simp; exact hne1); replace e5 := hg7.cell e5 (by simp; exact hne1); replace e6 := hg7.cell e6 (by simp; exact hne1); replace cT := hg7.cell cT (by simp; exact hd1))
  have hd2 : b ≠ gJ := HP.out.d1.2.1
  have hd3 : b ≠ gF := HP.out.d1.2.2
  have n12 : gN ≠ gJ := HO.out.n1
  have n13 : gN ≠ gF := HO.out.n2
  have n23 : gJ ≠ gF := HO.out.n3
  have hn7 : OwnE 3 w7 base gN n kN (fun i => if i = j then ((N j : Int) + 1) else natF N i) := OwnE.set ho7 hj
  have hj7 := HJW.out.kept hg7 (fun e => n12 e.symm)
  have hf7 := HFW.out.kept hg7 (fun e => n13 e.symm)
  have hJ1 := hj7.store hj (en : Int)
  have hF2 := (hf7.kept hJ1.2 (fun e => n23 e.symm)).store hk (en : Int)
  have cj := hj7.at hj
  have cf := hf7.at hk
  have cf2 := (hf7.kept hJ1.2 (fun e => n23 e.symm)).at hk
  have fj := hj7.frozenAt j
  have ff := hf7.frozenAt kx
  have ff2 := (hf7.kept hJ1.2 (fun e => n23 e.symm)).frozenAt kx
  have k5 := hJ1.2.cell e5 (by simp; exact hne2)
  have k6 := hJ1.2.cell e6 (by simp; exact hne2)
  have k0 := hJ1.2.cell e0 (by simp; exact hne2)
  have kT := hJ1.2.cell cT (by simp; exact hd2)
  have l5 := hF2.2.cell k5 (by simp; exact hne3)
  have l6 := hF2.2.cell k6 (by simp; exact hne3)
  have l0 := hF2.2.cell k0 (by simp; exact hne3)
  have lT := hF2.2.cell kT (by simp; exact hd3)
  have HE := hd (And.intro ((hn7.kept hJ1.2 n12).kept hF2.2 n13) (And.intro (hJ1.1.kept hF2.2 n23) (And.intro hF2.1 (KeepX.from HBw.out (((KeepX.of_grown hg7).trans (KeepX.of_grown hJ1.2)).trans (KeepX.of_grown hF2.2))))))
  clear hn7 hj7 hf7 hJ1 hF2 ho7 hg7 HOW HJW HFW
  refine' Code.wp_mono (ExPost0.imp (X := fun w' => OwnE 3 w' base gN n kN (fun i => if i = j then ((N j : Int) + 1) else natF N i) ∧ OwnE 2 w' base gJ n kJ (fun i => if i = j then (en : Int) else natF J i) ∧ OwnE 2 w' base gF m kF (fun i => if i = kx then (en : Int) else natF F i) ∧ KeepX (fun i => (i = gN ∨ i = gJ) ∨ i = gF) w w') (mk := _) ?_) ?_
  rotate_left 2
  focus
    go_region_held3 (fun w' => w'.cell? ⟨g, 0, none⟩ = some (.slice (some ⟨b, 0, none⟩) s c) ∧ w'.cell? ⟨g, 5, none⟩ = some (.slice (some ⟨gJ, 0, none⟩) n kJ) ∧ w'.cell? ⟨g, 6, none⟩ = some (.slice (some ⟨gF, 0, none⟩) m kF) ∧ w'.cell? ⟨b, x, none⟩ = some (.int .i64 (t x))) ((simp only [cell_drew_own]; first | with_reducible exact ⟨e0, e5, e6, cT⟩ | with_reducible exact ⟨k0, k5, k6, kT⟩ | with_reducible exact ⟨l0, l5, l6, lT⟩)) (fail)
    refine ⟨?_, HE.out.1, HE.out.2.1, HE.out.2.2.1, HE.out.2.2.2.drewN 1⟩
    exact rfl
  rintro w9 ⟨q1', q2', q3', q4'⟩
  have HN9 := hd (show OwnE 3 w9 base gN n kN (natF fun i => if i = j then N j + 1 else N i) by rw [← natF_set]; push_cast; exact q1')
  have HJ9 := hd (show OwnE 2 w9 base gJ n kJ (natF fun i => if i = j then en else J i) by rw [← natF_set]; exact q2')
  have HF9 := hd (show OwnE 2 w9 base gF m kF (natF fun i => if i = kx then en else F i) by rw [← natF_set]; exact q3')
  have HK9 := hd q4'
  clear q1' q2' q3' q4' e0 e5 e6 cT k0 k5 k6 kT l0 l5 l6 lT cj cf cf2 fj ff ff2 HE cN
  go_wp2
  go_ret2
  exact ⟨rfl, ⟨HN9.out, HJ9.out, HF9.out, n12, n13, n23⟩, HK9.out.mono fun i _ h => by rcases h with (h | h) | h; exact .inl h; exact .inr (.inl h); exact .inr (.inr h)⟩
end Go.Proofs.Ytkaopdpdfbkchaa
