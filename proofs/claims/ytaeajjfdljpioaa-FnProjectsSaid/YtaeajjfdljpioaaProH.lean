/- Who is behind whom: a contract; valid tasks by the reference; equal tasks. -/
import Derived.Test.YtaeajjfdljpioaaProG
namespace Go.Proofs.Ytaeajjfdljpioaa
open Go.RowKit Plain
set_option linter.unusedVariables false
set_option linter.unusedSimpArgs false
attribute [local go_sem ↓] Go.wp_at_zero Go.wp_at_succ
set_option maxHeartbeats 2000000 in
theorem BehindOf_any (b o c : Nat) (ts : List TK) (n : Nat) (w : World) (h : TA w b o c ts n) :
    Calls Try.prog 13 #[.slice (some ⟨b, o, none⟩) n c] w (SlackOut (behL ts n n) n (fun v => .tuple #[v, .bool true]) w) := by
  have HA := hd (AreTasks_any b o c ts n w h)
  have HT := hd h
  have n9 := h.n9
  have hnc := h.nc
  clear h
  go_enter Try.func13, Try.ntmps13
  go_wp2_with fail
  go_at_call 16
  refine HA.out.mono ?_; rintro e w1 ⟨rfl, hb1⟩
  have HB1 := hd hb1
  clear hb1 HA
  go_wp2_with (at_make; go_must (refine wpList_make_int _ rfl _ rfl _ _ n rfl rfl (by omega) ?_); intro w2 ho2 hb2)
  have HO2 := hd (show w2.ownsRow w1.heap.size 2 1 (.slice (some ⟨w1.heap.size, 0, none⟩) n n) n ((behL ts n 0).map vi) by rw [behL, List.map_replicate]; exact ho2)
  have HB2 := hd (below_tr hb2 HB1.out)
  clear ho2 hb2
  obtain ⟨R, hR⟩ : ∃ R, R = w1.heap.size := ⟨_, rfl⟩
  have HRR := hd (show w.heap.size ≤ R by rw [hR]; exact HB1.out.size)
  rw [← hR] at HO2 ⊢
  clear hR
  go_loopw [17] (fun iv wr => ∃ i : Nat, i ≤ n ∧ iv = .int .i64 i ∧ Hid (wr.ownsRow R 2 1 (.slice (some ⟨R, 0, none⟩) n n) n ((behL ts n i).map vi)) ∧ Hid (Below w.heap.size w wr)) (fun iv _ => n - (intOf iv).toNat)
  case atStart => exact ⟨0, by omega, rfl, HO2, HB2⟩
  case round =>
    clear HO2 HB2
    obtain ⟨i, hi, rfl, HO, HB⟩ := hrel
    by_cases hlt : i < n
    · have i2 : (i : Int) < (n : Int) := Int.ofNat_lt.2 hlt
      obtain ⟨Ab, cb, Al, cl, c0', c1', c2', c3', hb, hl, hcb, hcl⟩ := HT.out.cl i hlt
      have c0 := below_at HB.out c0'
      have c1 := below_at HB.out c1'
      have c2 := below_at HB.out c2'
      have c3 := below_at HB.out c3'
      have OK := hd (HT.out.ok i hlt)
      have HI0 := hd (behI_zero ts n i HT.out.ok hlt)
      have HIS := hd (fun k x hx => behI_step ts n i k x hx)
      have HIA := hd (fun k j => behI_at ts n i k hlt j)
      have HIE := hd (show behI ts n i (tkAt ts i).bf.length = behL ts n (i + 1) from rfl)
      have hsh := OK.out.short
      have FS := hd (fun k => (show behF (fun j => (behL ts n i).getD j 0) (tkAt ts i) (k + 1) = bits .or .i64 (behF (fun j => (behL ts n i).getD j 0) (tkAt ts i) k) (bits .or .i64 ((behL ts n i).getD (bN (tkAt ts i) k) 0) (IntKind.i64.wrap (2 ^ bN (tkAt ts i) k))) from rfl))
      generalize behF (fun j => (behL ts n i).getD j 0) (tkAt ts i) = F at *
      generalize tkAt ts i = t at *
      obtain ⟨m, hm⟩ : ∃ m, m = t.bf.length := ⟨_, rfl⟩
      have HM := hd hm
      rw [← hm] at c2 c3 hb hcb HIE hsh
      have RB := hd hb
      clear c0' c1' c2' c3' hl hcl hm hb
      generalize t.a = ta at *
      generalize t.b = tb at *
      go_upto_region 7 with fail
      have HBW := hd (HB.out.alloc HB.out.size (.cells #[.int .i64 ta, .int .i64 tb, .slice Ab m cb, .slice Al m cl] 40))
      have k2 : (wr.alloc (.cells #[.int .i64 ta, .int .i64 tb, .slice Ab m cb, .slice Al m cl] 40)).cell? ⟨wr.heap.size, 2, none⟩ = some (.slice Ab m cb) := (World.cell?_alloc_new ..).trans rfl
      have HOW := hd (HO.out.alloc (.cells #[.int .i64 ta, .int .i64 tb, .slice Ab m cb, .slice Al m cl] 40))
      generalize World.alloc wr (.cells #[.int .i64 ta, .int .i64 tb, .slice Ab m cb, .slice Al m cl] 40) = W at *
      generalize wr.heap.size = G at *
      clear c0 c1 c2 c3 HO HB
      go_wp2
      clear k2
      go_loopw [25] (fun iv wr => ∃ k : Nat, k ≤ m ∧ iv = .int .i64 k ∧ Hid (wr.ownsRow R 2 1 (.slice (some ⟨R, 0, none⟩) n n) n ((behI ts n i k).map vi)) ∧ Hid (Below w.heap.size w wr)) (fun iv _ => m - (intOf iv).toNat)
      case atStart => exact ⟨0, by omega, rfl, hd (by rw [HI0.out]; exact HOW.out), HBW⟩
      case round =>
        clear HOW HBW
        obtain ⟨k, hk, rfl, HO, HB⟩ := hrel
        by_cases hkm : k < m
        · have k2 : (k : Int) < (m : Int) := Int.ofNat_lt.2 hkm
          have hkl : k < t.bf.length := by have := HM.out; omega
          obtain ⟨bb, ob, rfl, cb'⟩ := (RB.out.below HB.out).int hkm
          rw [OK.out.cast hkl] at cb'
          have hj := OK.out.lt hkl
          have hjn : bN t k < n := by omega
          have cI := rd_cell (rd_own HO.out n9) hlt
          have cJ := rd_cell (rd_own HO.out n9) hjn
          rw [HIA.out, if_pos rfl] at cI
          rw [HIA.out, if_neg (by omega)] at cJ
          have ST := hd (HIS.out k _ rfl)
          rw [FS.out] at ST
          have EM := hd (show ((behI ts n i k).map vi).set i (.int .i64 (bits .or .i64 (F k) (bits .or .i64 ((behL ts n i).getD (bN t k) 0) (IntKind.i64.wrap (2 ^ bN t k))))) = (behI ts n i (k + 1)).map vi by rw [← ST.out, List.map_set]; rfl)
          generalize (behL ts n i).getD (bN t k) 0 = x at *
          generalize bN t k = j at *
          generalize F k = y at *
          have hj2 : (j : Int) < (n : Int) := Int.ofNat_lt.2 hjn
          have hj0 : ¬ (j : Int) < 0 := by omega
          have hj64 : j < 64 := by omega
          clear ST hkl hj
          go_wp2_with fail
          go_still_tail 12, (by kernel_rfl)
          change wpList _ _ _ _ _ wr.drew
          have HOd := hd (show wr.drew.ownsRow R 2 1 (.slice (some ⟨R, 0, none⟩) n n) n ((behI ts n i k).map vi) from HO.out.drew)
          have HBd := hd (show Below w.heap.size w wr.drew from HB.out.drew)
          clear cI cJ cb' HO HB
          go_wp2_with ((with_reducible refine wpList_store_own _ R 2 1 n n R _ HOd.out size_int i (.int .i64 (bits .or .i64 y (bits .or .i64 x (IntKind.i64.wrap (2 ^ j))))) ?_ ?_ ?_ ?_ ?_); exact rfl; exact rfl; exact rfl; omega; intro w7 ho7 hg7)
          have HO7 := hd (show w7.ownsRow R 2 1 (.slice (some ⟨R, 0, none⟩) n n) n ((behI ts n i (k + 1)).map vi) by rw [← EM.out]; exact ho7)
          have HB7 := hd (below_row hg7 HBd.out (fun k e => by cases e; exact HRR.out))
          clear ho7 hg7 HOd HBd
          go_roundw
          case rel => exact ⟨k + 1, by omega, by go_num, HO7, HB7⟩
          case measure => simp [intOf]; omega
        · obtain rfl : m = k := by omega
          go_wp2
          go_roundw
          case rel => exact ⟨i + 1, by omega, by go_num, hd (by rw [← HIE.out]; exact HO.out), HB⟩
          case measure => simp [intOf]; omega
    · obtain rfl : n = i := by omega
      go_wp2
      go_ret2
      exact ⟨_, rfl, own_mono HO.out HRR.out, HB.out⟩
end Go.Proofs.Ytaeajjfdljpioaa
