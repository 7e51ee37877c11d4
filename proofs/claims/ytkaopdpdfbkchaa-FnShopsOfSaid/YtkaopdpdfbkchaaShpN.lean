/- When steps begin as turns give them: the contract of ShopStarts. -/
import Derived.Test.YtkaopdpdfbkchaaShpH
import Derived.Test.YtkaopdpdfbkchaaShpM
namespace Go.Proofs.Ytkaopdpdfbkchaa.Plain
set_option linter.unusedVariables false
set_option linter.unusedSimpArgs false
/-- the first k turns -/
def LN (tu : Nat → Nat) (k : Nat) : List Nat := (List.range k).map tu
theorem LN_succ (tu : Nat → Nat) (k : Nat) : LN tu (k + 1) = LN tu k ++ [tu k] := by simp [LN, List.range_succ]
theorem LN_split (tu : Nat → Nat) {k s : Nat} (h : k ≤ s) : ∃ E, LN tu s = LN tu k ++ E := by
  obtain ⟨d, rfl⟩ : ∃ d, s = k + d := ⟨s - k, by omega⟩
  induction d with
  | zero => exact ⟨[], by simp⟩
  | succ d ih =>
    obtain ⟨E, hE⟩ := ih (by omega)
    exact ⟨E ++ [tu (k + d)], by rw [← Nat.add_assoc, LN_succ, hE, List.append_assoc]⟩
theorem LN_leg {m n k s : Nat} {tu : Nat → Nat} (h : LegR m n (LN tu s)) (hk : k ≤ s) : LegR m n (LN tu k) := by
  obtain ⟨E, hE⟩ := LN_split tu hk
  rw [hE] at h
  exact h.prefix
end Go.Proofs.Ytkaopdpdfbkchaa.Plain
namespace Go.Proofs.Ytkaopdpdfbkchaa
open Go.RowKit Plain
set_option linter.unusedVariables false
set_option linter.unusedSimpArgs false
attribute [local go_sem ↓] Go.wp_at_zero Go.wp_at_succ
theorem RI.b72 {m n s : Nat} {ro t : Nat → Nat} {S : RS} (h : RI m n s ro t S) (ht : ∀ i, i < s → t i ≤ 9) (s8 : s ≤ 8) : (∀ i, S.J i ≤ 1000) ∧ ∀ i, S.F i ≤ 1000 := by
  have key : ldN (layR m S.N) t s ≤ 72 := Nat.le_trans (ldN_bd ht) (by omega)
  exact ⟨fun i => by have := h.bJ i; omega, fun i => by have := h.bF i; omega⟩
/-- what the call gives -/
def StartsOut (m s : Nat) (ro t : Nat → Nat) (L : List Nat) (w : World) (r : Ending) (w' : World) : Prop :=
  ∃ g cap M, r = .returned (.tuple #[.slice (some ⟨g, 0, none⟩) s cap, .int .i64 (M : Nat), .bool true]) ∧ OwnL w' w.heap.size g s cap (natF (runR m ro t L).a) ∧ EndR m (runR m ro t L).F M ∧ Below w.heap.size w w'
set_option maxRecDepth 100000 in
set_option maxHeartbeats 4000000 in
theorem ShopStarts_any (b2 c2 b c bt ct m n s : Nat) (ro t tu : Nat → Nat) (w : World) (hr : RtT w b2 c2 m n s ro) (h : ShT w b c m n s t) (hT : FA w bt 0 ct s (natF tu)) (hL : FullR m n (LN tu s)) :
    Calls Try.prog 10 #[.slice (some ⟨b2, 0, none⟩) s c2, .slice (some ⟨b, 0, none⟩) s c, .int .i64 m, .slice (some ⟨bt, 0, none⟩) s ct] w (StartsOut m s ro t (LN tu s) w) := by
  have RO := hd (routed_any b2 c2 b c m n s ro t w hr h)
  have hK := h.k
  have m1 := hK.m1
  have m3 := hK.m3
  have n1 := hK.n1
  have n4 := hK.n4
  have s8 := hK.s8
  have s1 := hK.s1
  have HTU := hd (fun (i : Nat) (hi : i < s) => show tu i < n from hL.1 _ (List.mem_map.2 ⟨i, List.mem_range.2 hi, rfl⟩))
  have AW := hd (fun (w' : World) (hb : Below w.heap.size w w') => areWithin_any (.slice (some ⟨bt, 0, none⟩) s ct) (fL s (natF tu)) 0 ((n : Int) - 1) w' ((hT.below hb).slf (by omega)))
  have ha : (fL s (natF tu)).all (inR · 0 ((n : Int) - 1)) = true := fL_all fun i hi => by have := HTU.out i hi; unfold natF; omega
  rw [ha] at AW
  have SM := hd (fun (w' : World) => steps_any b c b2 c2 m n s (by omega) (by omega) w')
  have HR := hd hr
  have HS := hd h
  have HTT := hd hT
  have HL := hd hL
  have HK := hd hK
  have hwn : IntKind.i64.wrap ((n : Int) - 1) = (n : Int) - 1 := IntWalk.i64_in _ (by omega)
  have hro : ∀ x, x < s → ro x < m := fun x hx => by
    have hq : x / m < n := Nat.div_lt_of_lt_mul (by rw [Nat.mul_comm, ← hK.e]; exact hx)
    have := (hr.p (x / m) hq).lt (x % m) (Nat.mod_lt _ (by omega))
    have e : x / m * m + x % m = x := by rw [Nat.mul_comm]; exact Nat.div_add_mod x m
    show ro x < m
    rw [← e]; exact this
  have HRO := hd hro
  clear hr h hT hL ha hK hro
  unfold shV at RO SM
  have hmk := fun W => run_mk 25 2 Try.underlying25 info_int s (by omega) W
  go_enter Try.func10, Try.ntmps10
  go_wp2_with fail
  go_at_call 23
  refine RO.out.mono ?_; rintro e w' ⟨rfl, hb⟩
  clear RO
  go_wp2_with fail
  obtain ⟨g11, hg11⟩ : ∃ g11, g11 = w'.heap.size := ⟨_, rfl⟩
  obtain ⟨w1, hw1⟩ : ∃ w1, w1 = w'.alloc (.cells #[.slice (some ⟨b, 0, none⟩) s c, .int .i64 n, .int .i64 m] 42) := ⟨_, rfl⟩
  have H11 := hd (show w1.heap[g11]? = some (.cells #[.slice (some ⟨b, 0, none⟩) s c, .int .i64 n, .int .i64 m] 42 (0, 0)) by rw [hw1, hg11]; exact heap_alloc_new _ _)
  have HB1 := hd (show Below w.heap.size w w1 by rw [hw1]; exact hb.alloc hb.size _)
  have HG11 := hd (show g11 < w1.heap.size by rw [hw1, hg11]; simp)
  rw [← hw1, ← hg11]
  clear hw1 hg11 hb
  obtain ⟨x0, x1, x2⟩ := three_cells H11.out
  go_at_call 24
  refine (AW.out _ HB1.out).mono ?_; rintro e w2 ⟨rfl, hw⟩; subst hw
  clear AW
  go_wp2_with fail
  go_at_call 25
  refine (SM.out _).mono ?_; rintro e w2 ⟨gN, gJ, gF, rfl, hst, hb2⟩
  clear SM
  unfold StK.V
  go_wp2_with fail
  clear hmk
  obtain ⟨k, hk⟩ : ∃ k : StK, k = ⟨b, c, b2, c2, m, n, s, gN, gJ, gF, n, n, m⟩ := ⟨_, rfl⟩
  have HKK := hd hk
  clear hk
  obtain ⟨g13, hg13⟩ : ∃ g13, g13 = w2.heap.size := ⟨_, rfl⟩
  obtain ⟨go, hgo⟩ : ∃ go, go = w2.heap.size + 1 := ⟨_, rfl⟩
  obtain ⟨w4, hw4⟩ : ∃ w4, w4 = (w2.alloc (.cells #[.slice (some ⟨b, 0, none⟩) s c, .int .i64 n, .int .i64 m, .slice (some ⟨b2, 0, none⟩) s c2, .slice (some ⟨gN, 0, none⟩) n n, .slice (some ⟨gJ, 0, none⟩) n n, .slice (some ⟨gF, 0, none⟩) m m] 54)).alloc (.cells (madeCells #[.int .i64 0] s) 2) := ⟨_, rfl⟩
  have H13 := hd (show w4.heap[g13]? = some (.cells #[.slice (some ⟨b, 0, none⟩) s c, .int .i64 n, .int .i64 m, .slice (some ⟨b2, 0, none⟩) s c2, .slice (some ⟨gN, 0, none⟩) n n, .slice (some ⟨gJ, 0, none⟩) n n, .slice (some ⟨gF, 0, none⟩) m m] 54 (0, 0)) by rw [hw4, hg13, heap_alloc_get, if_neg (by simp)]; exact heap_alloc_new _ _)
  have HOo := hd (show OwnE 2 w4 w1.heap.size go s s (fun _ => 0) by
    have h := OwnE.made 2 (w2.alloc (.cells #[.slice (some ⟨b, 0, none⟩) s c, .int .i64 n, .int .i64 m, .slice (some ⟨b2, 0, none⟩) s c2, .slice (some ⟨gN, 0, none⟩) n n, .slice (some ⟨gJ, 0, none⟩) n n, .slice (some ⟨gF, 0, none⟩) m m] 54)) s w1.heap.size (by have := hb2.size; simp; omega) (by omega)
    rw [show (w2.alloc (.cells #[.slice (some ⟨b, 0, none⟩) s c, .int .i64 n, .int .i64 m, .slice (some ⟨b2, 0, none⟩) s c2, .slice (some ⟨gN, 0, none⟩) n n, .slice (some ⟨gJ, 0, none⟩) n n, .slice (some ⟨gF, 0, none⟩) m m] 54)).heap.size = go by rw [hgo]; simp] at h
    rw [hw4]; exact h)
  have HB24 := hd (show Below w2.heap.size w2 w4 by rw [hw4]; exact ((Below.refl _ _).alloc (Nat.le_refl _) _).alloc (by simp) _)
  have HB4 := hd (show Below w1.heap.size w1 w4 from below_tr HB24.out hb2)
  have HST := hd (show StO ⟨b, c, b2, c2, m, n, s, gN, gJ, gF, n, n, m⟩ w4 w1.heap.size (fun _ => 0) (fun _ => 0) (fun _ => 0) from ⟨own_below hst.oN HB24.out, own_below hst.oJ HB24.out, own_below hst.oF HB24.out, hst.n1, hst.n2, hst.n3⟩)
  have hlN : gN < w2.heap.size := block_lt_of_cell (hst.oN.at (i := 0) n1)
  have hlJ : gJ < w2.heap.size := block_lt_of_cell (hst.oJ.at (i := 0) n1)
  have hlF : gF < w2.heap.size := block_lt_of_cell (hst.oF.at (i := 0) m1)
  have hbN : w1.heap.size ≤ gN := own_row hst.oN (Nat.le_refl _) _ rfl
  have hbJ : w1.heap.size ≤ gJ := own_row hst.oJ (Nat.le_refl _) _ rfl
  have hbF : w1.heap.size ≤ gF := own_row hst.oF (Nat.le_refl _) _ rfl
  have hs12 := HB4.out.size
  have hs02 := HB1.out.size
  have HNE := hd (show (go ≠ gN ∧ go ≠ gJ ∧ go ≠ gF ∧ go ≠ g13) ∧ (g13 ≠ gN ∧ g13 ≠ gJ ∧ g13 ≠ gF) ∧ w1.heap.size ≤ go ∧ (∀ i, i < w1.heap.size → i ≠ gN ∧ i ≠ gJ ∧ i ≠ gF ∧ i ≠ go) from ⟨⟨by omega, by omega, by omega, by omega⟩, ⟨by omega, by omega, by omega⟩, by have := hb2.size; omega, fun i hi => ⟨by omega, by omega, by omega, by have := hb2.size; omega⟩⟩)
  rw [← hgo, ← hg13]
  rw [← hw4]
  have HNB := hd (fun (i : Nat) (hi : i < w.heap.size) => HNE.out.2.2.2 i (by omega))
  have HSb := hd (show b < w.heap.size from block_lt_of_cell (HS.out.f.cl 0 s1))
  have HRb := hd (show b2 < w.heap.size from block_lt_of_cell (HR.out.f.cl 0 s1))
  clear hw4 hg13 hgo hst hb2 hlN hlJ hlF hbN hbJ hbF hs12 x0 x1 x2
  go_loopw [51] (fun iv wr => ∃ i : Nat, i ≤ s ∧ iv = .int .i64 i ∧ Hid (StO ⟨b, c, b2, c2, m, n, s, gN, gJ, gF, n, n, m⟩ wr w1.heap.size (runR m ro t (LN tu i)).N (runR m ro t (LN tu i)).J (runR m ro t (LN tu i)).F) ∧ Hid (OwnE 2 wr w1.heap.size go s s (natF (runR m ro t (LN tu i)).a)) ∧ Hid (KeepX (fun i => i = gN ∨ i = gJ ∨ i = gF ∨ i = go) w4 wr)) (fun iv _ => s - (intOf iv).toNat)
  case atStart => exact ⟨0, by omega, rfl, HST, HOo, hd (KeepX.refl _ _)⟩
  case round =>
    clear HST HOo
    obtain ⟨i, hi, rfl, HST, HO, HKX⟩ := hrel
    obtain ⟨S, hS⟩ : ∃ S, S = runR m ro t (LN tu i) := ⟨_, rfl⟩
    have HSS := hd hS
    rw [← hS] at HST HO
    clear hS
    have H13r := hd (HKX.out.heap H13.out (by rintro (h | h | h | h); exact HNE.out.2.1.1 h; exact HNE.out.2.1.2.1 h; exact HNE.out.2.1.2.2 h; exact HNE.out.1.2.2.2 h.symm))
    have HBr := hd (HKX.out.below HB4.out (by rintro i (h | h | h | h) <;> refine Nat.le_of_not_lt fun hl => ?_; exact (HNE.out.2.2.2 i hl).1 h; exact (HNE.out.2.2.2 i hl).2.1 h; exact (HNE.out.2.2.2 i hl).2.2.1 h; exact (HNE.out.2.2.2 i hl).2.2.2 h))
    have HBw := hd (HB1.out.trans (HBr.out.mono HB1.out.size))
    by_cases hlt : i < s
    · have i2 : (i : Int) < (s : Int) := Int.ofNat_lt.2 hlt
      have cU := (HTT.out.below HBw.out).cl i hlt
      rw [Nat.zero_add] at cU
      unfold natF at cU
      have HLG := hd (LN_leg HL.out.leg (show i + 1 ≤ s by omega))
      have hjn := HTU.out i hlt
      have hNm : S.N (tu i) < m := by
        have h := HLG.out
        rw [LN_succ] at h
        rw [HSS.out, runR_N]; exact h.snoc.2
      have hRI := RI.run (t := t) HK.out.e HRO.out _ (LN_leg HL.out.leg (show i ≤ s by omega))
      rw [← HSS.out] at hRI
      have hb := RI.b72 hRI (fun x hx => (HS.out.r x hx).2) s8
      have HS2 := hd (show runR m ro t (LN tu (i + 1)) = stepR m ro t S (tu i) by rw [LN_succ, runR_snoc, ← HSS.out])
      obtain ⟨j, hj⟩ : ∃ j, j = tu i := ⟨_, rfl⟩
      rw [← hj] at cU hjn hNm HS2
      clear hj
      obtain ⟨xs, hxs⟩ : ∃ xs, xs = S.x m j := ⟨_, rfl⟩
      obtain ⟨av, hav⟩ : ∃ av, av = S.at m ro j := ⟨_, rfl⟩
      have TUv := hd (fun (w' : World) (hbw : Below wr.heap.size wr w') => (turn_any ⟨b, c, b2, c2, m, n, s, gN, gJ, gF, n, n, m⟩ w1.heap.size t ro S.N S.J S.F j w' ⟨HS.out.below (below_tr hbw HBw.out), HR.out.below (below_tr hbw HBw.out), ⟨(HNB.out b HSb.out).1, (HNB.out b HSb.out).2.1, (HNB.out b HSb.out).2.2.1⟩, ⟨(HNB.out b2 HRb.out).1, (HNB.out b2 HRb.out).2.1, (HNB.out b2 HRb.out).2.2.1⟩⟩ ⟨own_below HST.out.oN hbw, own_below HST.out.oJ hbw, own_below HST.out.oF hbw, HST.out.n1, HST.out.n2, HST.out.n3⟩ hjn hNm hb.1 hb.2).mono (R' := fun e w5 => e = .returned (.tuple #[.int .i64 (xs : Int), .int .i64 (av : Int)]) ∧ StO ⟨b, c, b2, c2, m, n, s, gN, gJ, gF, n, n, m⟩ w5 w1.heap.size (stepR m ro t S j).N (stepR m ro t S j).J (stepR m ro t S j).F ∧ KeepX (fun i => i = gN ∨ i = gJ ∨ i = gF) w' w5) (fun _ _ h => ⟨by rw [hxs, hav]; exact h.1, h.2.1, h.2.2⟩))
      have HXS := hd (show xs < s by rw [hxs, HK.out.e]; exact row_lt hjn hNm)
      have HAE := hd (show (fun i => if i = xs then (av : Int) else natF S.a i) = natF (stepR m ro t S j).a by rw [hxs, hav]; exact natF_set S.a _ _)
      clear hxs hav
      unfold StK.V at TUv
      have cN := HST.out.oN.at hjn
      have e0 : wr.cell? ⟨g13, 0, none⟩ = some (.slice (some ⟨b, 0, none⟩) s c) := (cell_of_row _ g13 0 _ _ _ H13r.out).trans rfl
      have e1 : wr.cell? ⟨g13, 1, none⟩ = some (.int .i64 n) := (cell_of_row _ g13 1 _ _ _ H13r.out).trans rfl
      have e2 : wr.cell? ⟨g13, 2, none⟩ = some (.int .i64 m) := (cell_of_row _ g13 2 _ _ _ H13r.out).trans rfl
      have e3 : wr.cell? ⟨g13, 3, none⟩ = some (.slice (some ⟨b2, 0, none⟩) s c2) := (cell_of_row _ g13 3 _ _ _ H13r.out).trans rfl
      have e4 : wr.cell? ⟨g13, 4, none⟩ = some (.slice (some ⟨gN, 0, none⟩) n n) := (cell_of_row _ g13 4 _ _ _ H13r.out).trans rfl
      have e5 : wr.cell? ⟨g13, 5, none⟩ = some (.slice (some ⟨gJ, 0, none⟩) n n) := (cell_of_row _ g13 5 _ _ _ H13r.out).trans rfl
      have e6 : wr.cell? ⟨g13, 6, none⟩ = some (.slice (some ⟨gF, 0, none⟩) m m) := (cell_of_row _ g13 6 _ _ _ H13r.out).trans rfl
      obtain ⟨x0, x1, x2⟩ := three_cells ((HBr.out.block _ HG11.out).trans H11.out)
      clear x0 x1
      unfold natF at cN
      have hne : ((S.N j : Int) == (m : Int)) = false := by simp; omega
      have hjn2 : (j : Int) < (n : Int) := by omega
      simp only at cN
      clear hRI hb HLG
      go_wp2
      refine wp_region_quiet_lit (by kernel_rfl) (by kernel_rfl) ?_
      go_big_quiet_step (fail); go_big_quiet_step (fail); go_big_quiet_step (fail); go_big_quiet_step (fail); go_big_quiet_step (fail); go_big_quiet_step (fail)
      go_big_quiet_step (fail); go_big_quiet_step (fail)
      refine wpQuiet_nil ?_; intro _ hw'; obtain ⟨nq, hw''⟩ := hw'; subst hw''
      clear hne cN x2 cU
      go_wp2_with fail
      go_at_call 26
      refine (TUv.out _ (below_drewN (Below.refl _ _) _)).mono ?_
      rintro e w5 ⟨rfl, hst5, hk5⟩
      clear TUv e0 e1 e2 e3 e4 e5 e6
      have HO5 := hd (hk5.own (show OwnE 2 (wr.drewN nq) w1.heap.size go s s (natF S.a) from HO.out) (by rintro (h | h | h); exact HNE.out.1.1 h; exact HNE.out.1.2.1 h; exact HNE.out.1.2.2.1 h))
      have HK5 := hd (((HKX.out.drewN nq).trans hk5))
      have HST5 := hd hst5
      clear hst5 hk5
      have hx2 : (xs : Int) < (s : Int) := by have := HXS.out; omega
      have hx1 := HXS.out
      go_wp2_with ((with_reducible refine wpList_store_own _ w1.heap.size 2 1 s s go _ HO5.out size_int xs (.int .i64 (av : Int)) ?_ ?_ ?_ ?_ ?_); exact rfl; exact rfl; exact rfl; omega; intro w7 ho7 hg7)
      have HO7 := hd (show OwnE 2 w7 w1.heap.size go s s (natF (runR m ro t (LN tu (i + 1))).a) by rw [HS2.out, ← HAE.out]; exact OwnE.set ho7 hx1)
      have HST7 := hd (show StO ⟨b, c, b2, c2, m, n, s, gN, gJ, gF, n, n, m⟩ w7 w1.heap.size (runR m ro t (LN tu (i + 1))).N (runR m ro t (LN tu (i + 1))).J (runR m ro t (LN tu (i + 1))).F by
        rw [HS2.out]
        exact ⟨HST5.out.oN.kept hg7 (fun e => HNE.out.1.1 e.symm), HST5.out.oJ.kept hg7 (fun e => HNE.out.1.2.1 e.symm), HST5.out.oF.kept hg7 (fun e => HNE.out.1.2.2.1 e.symm), HST5.out.n1, HST5.out.n2, HST5.out.n3⟩)
      have HK7 := hd ((HK5.out.trans (KeepX.of_grown hg7)).mono (Y := fun i => i = gN ∨ i = gJ ∨ i = gF ∨ i = go) (fun i _ h => by rcases h with (h | h) | h; exact h; (rcases h with h | h | h; exact .inl h; exact .inr (.inl h); exact .inr (.inr (.inl h))); exact .inr (.inr (.inr h))))
      clear ho7 hg7 hx1 hx2
      go_roundw
      case rel => exact ⟨i + 1, by omega, by go_num, HST7, HO7, HK7⟩
      case measure => simp [intOf]; omega
    · obtain rfl : s = i := by omega
      have e6 : wr.cell? ⟨g13, 6, none⟩ = some (.slice (some ⟨gF, 0, none⟩) m m) := (cell_of_row _ g13 6 _ _ _ H13r.out).trans rfl
      obtain ⟨M, hM⟩ := endR_ex S.F m m1
      have SMX := hd (slicesMax_any (.slice (some ⟨gF, 0, none⟩) m m) (fL m (natF S.F)) wr (((show OwnL wr w1.heap.size gF m m (natF S.F) from HST.out.oF).fa (by omega)).slf (by omega)) (by rw [fL_len]; omega))
      rw [maxTo_is (m := (M : Int)) (fun k hk => by have := hM.1 k hk; unfold natF; omega) (by obtain ⟨k, h1, h2⟩ := hM.2; exact ⟨k, h1, by unfold natF; omega⟩)] at SMX
      have HM := hd hM
      clear hM
      go_wp2_with (go_at_call 19; refine SMX.out.mono ?_; rintro e w' ⟨rfl, hw⟩; replace hw := hw.symm; subst hw)
      go_ret3
      exact ⟨go, s, M, rfl, own_mono (by rw [← HSS.out]; exact HO.out) HB1.out.size, by rw [← HSS.out]; exact HM.out, HBw.out⟩
end Go.Proofs.Ytkaopdpdfbkchaa
