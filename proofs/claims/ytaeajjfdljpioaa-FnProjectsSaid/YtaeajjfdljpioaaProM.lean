/- Ways from first tasks to last ones, on both sides: contracts. -/
import Derived.Test.YtaeajjfdljpioaaProK
import Derived.Test.YtaeajjfdljpioaaProI
import Derived.Test.YtaeajjfdljpioaaProL
import Derived.Test.YtaeajjfdljpioaaBSlice
import Derived.StillTailTactics
namespace Go.Proofs.Ytaeajjfdljpioaa
open Go.RowKit Plain
set_option linter.unusedVariables false
set_option linter.unusedSimpArgs false
attribute [local go_sem ↓] Go.wp_at_zero Go.wp_at_succ
set_option maxHeartbeats 4000000 in
theorem CountWays_spec (b o c : Nat) (ts : List TK) (n : Nat) (w : World) (h : TA w b o c ts n) :
    Calls Try.prog 15 #[.slice (some ⟨b, o, none⟩) n c] w fun r w' => r = .returned (.tuple #[.int .i64 (waysN ts n), .bool true]) ∧ Below w.heap.size w w' := by
  have HA := hd (l03Are_any b o c ts n w h)
  have HT := hd h
  have n1 := h.n1
  have n9 := h.n9
  have hnc := h.nc
  have hbw := h.blk
  clear h
  go_enter Try.func15, Try.ntmps15
  go_wp2_with fail
  go_at_call 33
  refine HA.out.mono ?_; rintro e w1 ⟨rfl, hb1⟩
  have HB1 := hd hb1
  clear hb1 HA
  go_wp2_with (first
    | (at_make; refine wpList_make_int _ rfl _ rfl _ _ n rfl rfl (by omega) ?_; intro w2 ho2 hb2)
    | (at_make; refine wpList_make_bool _ rfl _ rfl _ _ n rfl rfl (by omega) ?_; intro w3 ho3 hb23))
  have HO2 := hd (show w2.ownsRow w1.heap.size 2 1 (.slice (some ⟨w1.heap.size, 0, none⟩) n n) n ((waysL ts n 0).map vi) by rw [waysL, List.map_replicate]; exact ho2)
  have HB2 := hd (below_tr hb2 HB1.out)
  have hRlt : w1.heap.size < w2.heap.size := (World.ownsRow.lt ho2 _ rfl).2
  obtain ⟨g, hg⟩ : ∃ g, g = w2.heap.size := ⟨_, rfl⟩
  have hg0 : w2.heap.size ≤ g := by omega
  have HE3 := hd (show w3.ownsRow w2.heap.size 4 1 (.slice (some ⟨g, 0, none⟩) n n) n ((innL ts n 0 0).map vb) by rw [innL_zero, List.map_replicate, hg]; exact ho3)

  have HO3 := hd (own_below HO2.out hb23)
  have HB3 := hd (below_tr hb23 HB2.out)
  obtain ⟨R, hR⟩ : ∃ R, R = w1.heap.size := ⟨_, rfl⟩
  have HRR := hd (show w.heap.size ≤ R by rw [hR]; exact HB1.out.size)
  obtain ⟨S, hS⟩ : ∃ S, S = w2.heap.size := ⟨_, rfl⟩
  have hRg : R ≠ g := by omega
  have HSg := hd (show w.heap.size ≤ g by have := HRR.out; omega)
  rw [← hR] at HO3
  rw [← hS] at HE3
  rw [← hR, ← hS, hS, ← hg]
  have hbR : b ≠ R := by have := HRR.out; omega
  clear hg
  clear hb23 ho3 HO2 HB2 hg0 hRlt hR hS
  go_wp2
  go_loopw [21] (fun iv wr => ∃ i : Nat, i ≤ n ∧ iv = .int .i64 i ∧ Hid (wr.ownsRow R 2 1 (.slice (some ⟨R, 0, none⟩) n n) n ((waysL ts n i).map vi)) ∧ Hid (wr.ownsRow S 4 1 (.slice (some ⟨g, 0, none⟩) n n) n ((innL ts n i 0).map vb)) ∧ Hid (Below w.heap.size w wr)) (fun iv _ => n - (intOf iv).toNat)
  case atStart => exact ⟨0, by omega, rfl, HO3, HE3, HB3⟩
  case round =>
    clear HO3 HE3 HB3
    obtain ⟨i, hi, rfl, HO, HE, HB⟩ := hrel
    by_cases hlt : i < n
    · have i2 : (i : Int) < (n : Int) := Int.ofNat_lt.2 hlt
      obtain ⟨Ab, cb, Al, cl, c0', c1', c2', c3', hb, hl, hcb, hcl⟩ := HT.out.cl i hlt
      have c0 := below_at HB.out c0'
      have c1 := below_at HB.out c1'
      have c2 := below_at HB.out c2'
      have c3 := below_at HB.out c3'
      have OK := hd (HT.out.ok i hlt)
      have W0 := hd (waysI_some ts n i hlt)
      have W1 := hd (waysI_none ts n i)
      have HIS := hd (fun k x hx => waysI_step ts n i k x hx)
      have HIA := hd (fun k j => waysI_at ts n i k hlt j)
      have HIB := hd (fun k hk => waysI_bd (k := k) HT.out.ok n9 hlt hk)
      have HIC := hd (fun j hj => ways_big HT.out.ok n9 i (by omega) j hj)
      have HIE := hd (show waysI ts n i (tkAt ts i).bf.length = waysL ts n (i + 1) from rfl)
      have HEN := hd (innL_next ts n i)
      have HES := hd (fun k => innL_step ts n i k)
      have hsh := OK.out.short
      have FS := hd (fun k => (show waysF ts (fun j => (waysL ts n i).getD j 0) i (k + 1) = waysF ts (fun j => (waysL ts n i).getD j 0) i k + (waysL ts n i).getD (bN (tkAt ts i) k) 0 from rfl))
      generalize waysF ts (fun j => (waysL ts n i).getD j 0) i = F at *
      generalize tkAt ts i = t at *
      obtain ⟨m, hm⟩ : ∃ m, m = t.bf.length := ⟨_, rfl⟩
      have HM := hd hm
      rw [← hm] at c2 c3 hb hcb HIE hsh W0 W1 HEN HIB
      have RB := hd hb
      clear c0' c1' c3' hl hcl hm hb
      have C2w := hd (show w.cell? ⟨b, o + i * 4 + 2, none⟩ = some (.slice Ab m cb) by rw [HM.out]; exact c2')
      clear c2'
      generalize t.a = ta at *
      generalize t.b = tb at *
      have HBW := HB
      have HOW := HO
      have HEW := HE
      obtain ⟨W, hWr⟩ : ∃ W, W = wr := ⟨_, rfl⟩
      subst hWr
      clear c0 c1 c3 HO HE HB
      rcases Nat.eq_zero_or_pos m with m0 | m0
      focus
        have W1' := hd (W1.out m0)
        have EM := hd (show ((waysL ts n i).map vi).set i (.int .i64 1) = (waysI ts n i 0).map vi by rw [← W1'.out, List.map_set]; rfl)
        have hm0 : (m : Int) = 0 := by omega
        go_wp2_with ((with_reducible refine wpList_store_own _ R 2 1 n n R _ HOW.out size_int i (.int .i64 1) ?_ ?_ ?_ ?_ ?_); exact rfl; exact rfl; exact rfl; omega; intro w7 ho7 hg7; have k27 := hg7.cell c2 (by simp; omega))
        have HO7 := hd (show w7.ownsRow R 2 1 (.slice (some ⟨R, 0, none⟩) n n) n ((waysI ts n i 0).map vi) by rw [← EM.out]; exact ho7)
        have HE7 := hd (HEW.out.kept hg7 (.inr (by intro e; simp only [Value.ownBlock, Option.map_some, Option.some.injEq] at e; exact hRg e.symm)))
        have HB7 := hd (below_row hg7 HBW.out (fun k e => by cases e; exact HRR.out))
        clear ho7 hg7 HOW HEW HBW EM W1'
      rotate_left
      focus
        have hm0 : ¬ (m : Int) = 0 := by omega
        have hm02 : ((m : Int) == 0) = false := by simp; omega
        go_wp2
        obtain ⟨w7, hw7⟩ : ∃ w7, w7 = W := ⟨_, rfl⟩
        subst hw7
        have HO7 := hd (show w7.ownsRow R 2 1 (.slice (some ⟨R, 0, none⟩) n n) n ((waysI ts n i 0).map vi) by rw [W0.out (by omega)]; exact HOW.out)
        have HE7 := HEW
        have HB7 := HBW
        clear HOW HEW HBW
      all_goals
        go_loopw [40] (fun iv wr => ∃ k : Nat, k ≤ m ∧ iv = .int .i64 k ∧ Hid (wr.ownsRow R 2 1 (.slice (some ⟨R, 0, none⟩) n n) n ((waysI ts n i k).map vi)) ∧ Hid (wr.ownsRow S 4 1 (.slice (some ⟨g, 0, none⟩) n n) n ((innL ts n i k).map vb)) ∧ Hid (Below w.heap.size w wr)) (fun iv _ => m - (intOf iv).toNat)
        case atStart => exact ⟨0, by omega, rfl, HO7, HE7, HB7⟩
        case round =>
          clear HO7 HE7 HB7
          obtain ⟨k, hk, rfl, HO, HE, HB⟩ := hrel
          by_cases hkm : k < m
          · try (exfalso; omega)
            all_goals
              have k2 : (k : Int) < (m : Int) := Int.ofNat_lt.2 hkm
              have hkl : k < t.bf.length := by have := HM.out; omega
              obtain ⟨bb, ob, rfl, cb'⟩ := (RB.out.below HB.out).int hkm
              rw [OK.out.cast hkl] at cb'
              have hj := OK.out.lt hkl
              have hjn : bN t k < n := by omega
              have cI := rd_cell (rd_own HO.out n9) hlt
              have cJ := rd_cell (rd_own HO.out n9) hjn
              rw [HIA.out, if_pos rfl] at cI
              rw [HIA.out, if_neg (by omega)] at cJ
              have yb := HIB.out k (by omega)
              have xb := HIC.out (bN t k) hjn
              have ST := hd (HIS.out k _ rfl)
              rw [FS.out] at ST
              have EM := hd (show ((waysI ts n i k).map vi).set i (.int .i64 (F k + (waysL ts n i).getD (bN t k) 0)) = (waysI ts n i (k + 1)).map vi by rw [← ST.out, List.map_set]; rfl)
              have EE := hd (show ((innL ts n i k).map vb).set (bN t k) (.bool true) = (innL ts n i (k + 1)).map vb by rw [← HES.out, List.map_set]; rfl)
              generalize (waysL ts n i).getD (bN t k) 0 = x at *
              generalize hjj : bN t k = j at *
              have HJJ := hd hjj
              clear hjj
              generalize F k = y at *
              have hw1 : IntKind.i64.wrap (y + x) = y + x := IntWalk.i64_in _ (by omega)
              have hj2 : (j : Int) < (n : Int) := Int.ofNat_lt.2 hjn
              have cN := below_at HB.out C2w.out
              clear ST hkl hj yb xb
              go_wp2_with fail
              go_still_tail 16, (by kernel_rfl)
              change wpList _ _ _ _ _ wr.drew
              have HOd := hd (show wr.drew.ownsRow R 2 1 (.slice (some ⟨R, 0, none⟩) n n) n ((waysI ts n i k).map vi) from HO.out.drew)
              have HEd := hd (show wr.drew.ownsRow S 4 1 (.slice (some ⟨g, 0, none⟩) n n) n ((innL ts n i k).map vb) from HE.out.drew)
              have HBd := hd (show Below w.heap.size w wr.drew from HB.out.drew)
              clear cI cJ HO HE HB hw1
              have cN7 := fun (w7 : World) (hg7 : wr.drew.grownBy w7 (some R)) => below_at (below_row hg7 HBd.out (fun k e => by cases e; exact HRR.out)) C2w.out
              have cb7 := fun (w7 : World) (hg7 : wr.drew.grownBy w7 (some R)) => ((RB.out.below (below_row hg7 HBd.out (fun k e => by cases e; exact HRR.out))).int hkm)
              clear cb' cN
              go_wp2_with (first
                | ((with_reducible refine wpList_store_own _ R 2 1 n n R _ HOd.out size_int i (.int .i64 (y + x)) ?_ ?_ ?_ ?_ ?_); exact rfl; exact rfl; exact rfl; omega; intro w7 ho7 hg7; have HE7 := hd (HEd.out.kept hg7 (.inr (by intro e; simp only [Value.ownBlock, Option.map_some, Option.some.injEq] at e; exact hRg e.symm))); have cN := cN7 w7 hg7; obtain ⟨_, _, e0, cb''⟩ := cb7 w7 hg7; cases e0; rw [OK.out.cast (show k < t.bf.length by have := HM.out; omega)] at cb''; rw [HJJ.out] at cb''; clear cb7 cN7)
                | ((with_reducible refine wpList_store_own _ S 4 1 n n g _ HE7.out size_bool j (.bool true) ?_ ?_ ?_ ?_ ?_); exact rfl; exact rfl; exact rfl; omega; intro w8 ho8 hg8))
              have HB7 := hd (below_row hg7 HBd.out (fun k e => by cases e; exact HRR.out))
              have HO8 := hd (show w8.ownsRow R 2 1 (.slice (some ⟨R, 0, none⟩) n n) n ((waysI ts n i (k + 1)).map vi) by rw [← EM.out]; exact ho7.kept hg8 (.inr (by intro e; simp only [Value.ownBlock, Option.map_some, Option.some.injEq] at e; exact hRg e)))
              have HE8 := hd (show w8.ownsRow S 4 1 (.slice (some ⟨g, 0, none⟩) n n) n ((innL ts n i (k + 1)).map vb) by rw [← EE.out]; exact ho8)
              have HB8 := hd (below_row hg8 HB7.out (fun k e => by cases e; exact HSg.out))
              clear ho7 hg7 ho8 hg8 HOd HBd HEd HB7
              go_roundw
              case rel => exact ⟨k + 1, by omega, by go_num, HO8, HE8, HB8⟩
              case measure => simp [intOf]; omega
          · obtain rfl : m = k := by omega
            go_wp2
            go_roundw
            case rel => exact ⟨i + 1, by omega, by go_num, hd (by rw [← HIE.out]; exact HO.out), hd (by rw [← HEN.out]; exact HE.out), HB⟩
            case measure => simp [intOf]; omega
    · obtain rfl : n = i := by omega
      have SB := hd (fun k (hk : k ≤ n) => sumW_bd (ws := fun j => (waysL ts n n).getD j 0) (en := endP ts n n 0) (M := 43046721) (by omega) k (fun j hj => ways_big HT.out.ok n9 n (Nat.le_refl _) j (by omega)))
      have SS := hd (fun k => (show sumW (fun j => (waysL ts n n).getD j 0) (endP ts n n 0) (k + 1) = if endP ts n n 0 k then sumW (fun j => (waysL ts n n).getD j 0) (endP ts n n 0) k + (waysL ts n n).getD k 0 else sumW (fun j => (waysL ts n n).getD j 0) (endP ts n n 0) k from rfl))
      have S0 := hd (show sumW (fun j => (waysL ts n n).getD j 0) (endP ts n n 0) 0 = 0 from rfl)
      have SN := hd (show sumW (fun j => (waysL ts n n).getD j 0) (endP ts n n 0) n = waysN ts n from rfl)
      have WB := hd (fun j hj => ways_big HT.out.ok n9 n (Nat.le_refl _) j hj)
      generalize sumW (fun j => (waysL ts n n).getD j 0) (endP ts n n 0) = G at *
      go_wp2
      go_loopw [8, 74] (fun sv iv wr' => ∃ k : Nat, k ≤ n ∧ iv = .int .i64 k ∧ sv = .int .i64 (G k) ∧ wr' = wr) (fun _ iv _ => n - (intOf iv).toNat)
      case atStart => exact ⟨0, by omega, rfl, by rw [S0.out], rfl⟩
      case round =>
        obtain ⟨k, hk, rfl, rfl, hw⟩ := hrel
        subst hw
        by_cases hlt' : k < n
        · have k2 : (k : Int) < (n : Int) := Int.ofNat_lt.2 hlt'
          have cE := rdb_cell HE.out n9 hlt'
          have cW := rd_cell (rd_own HO.out n9) hlt'
          rw [innL_at ts n n 0 hlt'] at cE
          have ss := SS.out k
          have sb := SB.out k hk
          have wb := WB.out k hlt'
          generalize (waysL ts n n).getD k 0 = x at *
          obtain ⟨y, hy⟩ : ∃ y, y = G k := ⟨_, rfl⟩
          rw [← hy] at ss sb ⊢
          have hw1 : IntKind.i64.wrap (y + x) = y + x := IntWalk.i64_in _ (by omega)
          cases he : endP ts n n 0 k with
          | false =>
            rw [he] at cE ss
            have SSx := hd (show G (k + 1) = y from ss)
            clear ss sb wb he hy
            go_wp2
            go_roundw
            case rel => exact ⟨k + 1, by omega, by go_num, by rw [SSx.out], by first | rfl | trivial⟩
            case measure => simp [intOf]; omega
          | true =>
            rw [he] at cE ss
            have SSx := hd (show G (k + 1) = y + x from ss)
            clear ss sb wb he hy
            go_wp2
            go_roundw
            case rel => exact ⟨k + 1, by omega, by go_num, by rw [SSx.out], by first | rfl | trivial⟩
            case measure => simp [intOf]; omega
        · obtain rfl : n = k := by omega
          rw [SN.out]
          go_wp2
          go_ret2
          exact ⟨rfl, HB.out⟩
end Go.Proofs.Ytaeajjfdljpioaa
