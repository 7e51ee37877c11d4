/- A list of tasks is the same as itself: contracts. -/
import Derived.Test.YtaeajjfdljpioaaProG
namespace Go.Proofs.Ytaeajjfdljpioaa
open Go.RowKit Plain
set_option linter.unusedVariables false
set_option linter.unusedSimpArgs false
attribute [local go_sem ↓] Go.wp_at_zero Go.wp_at_succ
set_option maxHeartbeats 2000000 in
theorem same1_any (ta tb : Int) (Ab Al : Option Addr) (m cb cl : Nat) (s s' : List Int) (m9 : m ≤ 1000) (w : World) (hb : Rd w 1 Ab m (s.map vi)) (hl : Rd w 1 Al m (s'.map vi)) (hcb : m ≤ cb) (hcl : m ≤ cl) :
    Calls Try.prog 38 #[.agg #[.int .i64 ta, .int .i64 tb, .slice Ab m cb, .slice Al m cl], .agg #[.int .i64 ta, .int .i64 tb, .slice Ab m cb, .slice Al m cl]] w fun r w' => r = .returned (.bool true) ∧ Below w.heap.size w w' := by
  have E1 := hd (fun w' (h : Below w.heap.size w w') => equal_same (.slice Ab m cb) s m m9 w' ⟨Ab, cb, rfl, hcb, hb.below h⟩)
  have E2 := hd (fun w' (h : Below w.heap.size w w') => equal_same (.slice Al m cl) s' m m9 w' ⟨Al, cl, rfl, hcl, hl.below h⟩)
  have HB := hd (((Below.refl _ w).alloc (Nat.le_refl _) (.cells #[.int .i64 ta, .int .i64 tb, .slice Ab m cb, .slice Al m cl] 40)).alloc (by simp) (.cells #[.int .i64 ta, .int .i64 tb, .slice Ab m cb, .slice Al m cl] 40))
  clear hb hl
  go_enter Try.func38, Try.ntmps38
  go_wp2_with fail
  go_at_call 39
  have k3 : ((w.alloc (.cells #[.int .i64 ta, .int .i64 tb, .slice Ab m cb, .slice Al m cl] 40)).alloc (.cells #[.int .i64 ta, .int .i64 tb, .slice Ab m cb, .slice Al m cl] 40)).cell? ⟨w.heap.size, 3, none⟩ = some (.slice Al m cl) := by simp [go_sem]
  have k3' : ((w.alloc (.cells #[.int .i64 ta, .int .i64 tb, .slice Ab m cb, .slice Al m cl] 40)).alloc (.cells #[.int .i64 ta, .int .i64 tb, .slice Ab m cb, .slice Al m cl] 40)).cell? ⟨w.heap.size + 1, 3, none⟩ = some (.slice Al m cl) := by simp [go_sem]
  generalize (w.alloc (.cells #[.int .i64 ta, .int .i64 tb, .slice Ab m cb, .slice Al m cl] 40)).alloc (.cells #[.int .i64 ta, .int .i64 tb, .slice Ab m cb, .slice Al m cl] 40) = W at *
  refine (E1.out W HB.out).mono ?_
  rintro e wq ⟨rfl, q, hwq⟩
  have HB' := hd (show Below w.heap.size w wq by rw [hwq]; exact below_drewN HB.out _)
  have j3 : wq.cell? ⟨w.heap.size, 3, none⟩ = some (.slice Al m cl) := by rw [hwq]; exact k3
  have j3' : wq.cell? ⟨w.heap.size + 1, 3, none⟩ = some (.slice Al m cl) := by rw [hwq]; exact k3'
  clear hwq HB E1 k3 k3'
  go_wp2_with fail
  go_at_call 39
  refine (E2.out wq HB'.out).mono ?_
  rintro e wp ⟨rfl, q', hwp⟩
  have HB9 := hd (show Below w.heap.size w wp by rw [hwp]; exact below_drewN HB'.out _)
  clear hwp HB'
  go_wp2
  go_ret
  exact ⟨rfl, HB9.out⟩
set_option maxHeartbeats 2000000 in
theorem equalF_any (b o c : Nat) (ts : List TK) (n : Nat) (w : World) (h : TA w b o c ts n) :
    Calls Try.prog 37 #[.slice (some ⟨b, o, none⟩) n c, .slice (some ⟨b, o, none⟩) n c, .func (.func 38) #[] #[]] w fun r w' => r = .returned (.bool true) ∧ Below w.heap.size w w' := by
  have HT := hd h
  have n1 := h.n1
  have n9 := h.n9
  have hnc := h.nc
  clear h
  go_enter Try.func37, Try.ntmps37
  go_wp2
  go_loopw [17] (fun iv wr => ∃ i : Nat, i ≤ n ∧ iv = .int .i64 i ∧ Hid (Below w.heap.size w wr)) (fun iv _ => n - (intOf iv).toNat)
  case atStart => exact ⟨0, by omega, rfl, hd (Below.refl _ _)⟩
  case round =>
    obtain ⟨i, hi, rfl, HB⟩ := hrel
    by_cases hlt : i < n
    · have i2 : (i : Int) < (n : Int) := Int.ofNat_lt.2 hlt
      obtain ⟨Ab, cb, Al, cl, c0, c1, c2, c3, hb, hl, hcb, hcl⟩ := (HT.out.below HB.out).cl i hlt
      have sh := (HT.out.ok i hlt).short
      generalize hm : (tkAt ts i).bf.length = m at *
      clear hm
      have S1 := hd (fun W (hW : Below wr.heap.size wr W) => same1_any (tkAt ts i).a (tkAt ts i).b Ab Al m cb cl (tkAt ts i).bf (tkAt ts i).lg (by omega) W (hb.below hW) (hl.below hW) hcb hcl)
      generalize (tkAt ts i).a = ta at *
      generalize (tkAt ts i).b = tb at *
      clear hb hl
      go_upto_region 6 with fail
      have ALW := (Below.refl wr.heap.size wr).alloc (Nat.le_refl _) (.cells #[.int .i64 ta, .int .i64 tb, .slice Ab m cb, .slice Al m cl] 40)
      have d0 := below_at ALW c0
      have d1 := below_at ALW c1
      have d2 := below_at ALW c2
      have d3 := below_at ALW c3
      have e0 : (wr.alloc (.cells #[.int .i64 ta, .int .i64 tb, .slice Ab m cb, .slice Al m cl] 40)).cell? ⟨wr.heap.size, 0, none⟩ = some (.int .i64 ta) := (World.cell?_alloc_new ..).trans rfl
      have e1 : (wr.alloc (.cells #[.int .i64 ta, .int .i64 tb, .slice Ab m cb, .slice Al m cl] 40)).cell? ⟨wr.heap.size, 1, none⟩ = some (.int .i64 tb) := (World.cell?_alloc_new ..).trans rfl
      have e2 : (wr.alloc (.cells #[.int .i64 ta, .int .i64 tb, .slice Ab m cb, .slice Al m cl] 40)).cell? ⟨wr.heap.size, 2, none⟩ = some (.slice Ab m cb) := (World.cell?_alloc_new ..).trans rfl
      have e3 : (wr.alloc (.cells #[.int .i64 ta, .int .i64 tb, .slice Ab m cb, .slice Al m cl] 40)).cell? ⟨wr.heap.size, 3, none⟩ = some (.slice Al m cl) := (World.cell?_alloc_new ..).trans rfl
      have AW := hd ALW
      generalize World.alloc wr (.cells #[.int .i64 ta, .int .i64 tb, .slice Ab m cb, .slice Al m cl] 40) = W at *
      generalize hG : wr.heap.size = G at *
      clear c0 c1 c2 c3 ALW
      have ALW2 := (Below.refl W.heap.size W).alloc (Nat.le_refl _) (.cells #[.int .i64 ta, .int .i64 tb, .slice Ab m cb, .slice Al m cl] 40)
      have f0 := below_at ALW2 e0
      have f1 := below_at ALW2 e1
      have f2 := below_at ALW2 e2
      have f3 := below_at ALW2 e3
      have B2 := hd (show Below G wr _ from AW.out.alloc (show G ≤ W.heap.size by rw [← hG]; exact AW.out.size) (.cells #[.int .i64 ta, .int .i64 tb, .slice Ab m cb, .slice Al m cl] 40))
      rw [← hG] at B2
      have HG := hd hG
      clear hG ALW2 e0 e1 e2 e3
      go_wp2_with fail
      go_at_call 38
      refine (S1.out _ (by rw [← HG.out]; exact B2.out)).mono ?_
      rintro e wq ⟨rfl, hbq⟩
      clear f0 f1 f2 f3 d0 d1 d2 d3
      have HB' := hd (below_tr hbq (below_tr B2.out HB.out))
      clear hbq HB B2 S1
      go_wp2
      go_roundw
      case rel => exact ⟨i + 1, by omega, by go_num, HB'⟩
      case measure => simp [intOf]; omega
    · go_wp2
      go_ret
      exact ⟨rfl, HB.out⟩
set_option maxHeartbeats 1000000 in
theorem SameTasks_any (b o c : Nat) (ts : List TK) (n : Nat) (w : World) (h : TA w b o c ts n) :
    Calls Try.prog 17 #[.slice (some ⟨b, o, none⟩) n c, .slice (some ⟨b, o, none⟩) n c] w fun r w' => r = .returned (.bool true) ∧ Below w.heap.size w w' := by
  have E := hd (equalF_any b o c ts n w h)
  clear h
  go_enter Try.func17, Try.ntmps17
  go_wp2_with fail
  go_at_call 37
  refine E.out.mono ?_
  rintro e wq ⟨rfl, hb⟩
  go_wp2
  go_ret
  exact ⟨rfl, hb⟩
end Go.Proofs.Ytaeajjfdljpioaa
