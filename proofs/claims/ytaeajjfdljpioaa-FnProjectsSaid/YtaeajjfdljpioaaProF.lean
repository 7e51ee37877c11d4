/- Free slacks: a contract. -/
import Derived.Test.YtaeajjfdljpioaaProE
namespace Go.Proofs.Ytaeajjfdljpioaa
open Go.RowKit Plain
set_option linter.unusedVariables false
set_option linter.unusedSimpArgs false
attribute [local go_sem ↓] Go.wp_at_zero Go.wp_at_succ
/-- free slacks of the first k tasks -/
def freeL (ts : List TK) (n : Nat) (e : Int) (k : Nat) : List Int := (List.range k).map fun i => lateF ts (eS ts n) i e (n - 1 - i) - eS ts n i
theorem freeL_succ (ts : List TK) (n : Nat) (e : Int) (k : Nat) : freeL ts n e (k + 1) = freeL ts n e k ++ [lateF ts (eS ts n) k e (n - 1 - k) - eS ts n k] := by simp [freeL, List.range_succ]
theorem freeL_len (ts : List TK) (n : Nat) (e : Int) (k : Nat) : (freeL ts n e k).length = k := by simp [freeL]
theorem freeL_at (ts : List TK) (n : Nat) (e : Int) {k j : Nat} (hj : j < k) : (freeL ts n e k).getD j 0 = lateF ts (eS ts n) j e (n - 1 - j) - eS ts n j := by
  rw [freeL, List.getD_eq_getElem?_getD, List.getElem?_map, List.getElem?_range hj]; rfl
set_option maxHeartbeats 2000000 in
theorem FreeSlackOf_any (b o c : Nat) (ts : List TK) (n : Nat) (w : World) (h : TA w b o c ts n) :
    Calls Try.prog 10 #[.slice (some ⟨b, o, none⟩) n c] w (fun r w' => ∃ u, r = .returned (.tuple #[u, .bool true]) ∧ w'.ownsRow w.heap.size 2 1 u n ((freeL ts n (lastF ts (eS ts n) n) n).map vi) ∧ Below w.heap.size w w') := by
  have HE := hd (EarlyStarts_any b o c ts n w h)
  have EBD := end_bd h.ok h.n9
  have n9 := h.n9
  have EB := hd (fun j => early_bd h.ok n (Nat.le_refl _) j)
  have LT := hd (fun w' hb V hs i hi => latest_any b o c ts n w' (h.below hb) V (earlyL ts n n) hs i hi (lastF ts (eS ts n) n) EBD.1 (by omega))
  have FB := hd (fun i (hi : i < n) => lateF_bd h.ok (st := eS ts n) (i := i) (e := lastF ts (eS ts n) n) (B := 0) (n - 1 - i) (by omega) EBD.1 (by omega) (fun j _ _ => (eS_bd h.ok j).1))
  have FS := hd (fun k => freeL_succ ts n (lastF ts (eS ts n) n) k)
  have F0 := hd (show freeL ts n (lastF ts (eS ts n) n) 0 = [] from rfl)
  have E9 := hd (show (fun j => (earlyL ts n n).getD j 0) = eS ts n from rfl)
  clear h
  go_enter Try.func10, Try.ntmps10
  go_wp2_with fail
  go_at_call 7
  refine HE.out.mono ?_; rintro e' w2 ⟨ge, rfl, ho2, hb2⟩
  obtain ⟨F, hF⟩ : ∃ F, F = freeL ts n (lastF ts (eS ts n) n) := ⟨_, rfl⟩
  rw [← hF] at FS F0
  have HF := hd hF
  clear hF
  obtain ⟨e, he⟩ : ∃ e, e = lastF ts (eS ts n) n := ⟨_, rfl⟩
  rw [← he] at EBD FB FS LT ⊢
  have HR := hd (rd_own ho2 n9)
  have HS := hd (starts_own ho2 n9 (fun k hk => by have := EB.out k; omega))
  have HB2 := hd hb2
  have hgeq : ge < w2.heap.size := (World.ownsRow.lt ho2 _ rfl).2
  clear ho2 hb2 HE he
  obtain ⟨g0, hg0⟩ : ∃ g0, g0 = w2.heap.size := ⟨_, rfl⟩
  have HG0 := hd hg0
  rw [← hg0] at hgeq
  go_wp2
  go_loopw [7, 20] (fun ov iv wr => ∃ k g cap : Nat, k ≤ n ∧ iv = .int .i64 k ∧ ov = .slice (some ⟨g, 0, none⟩) k cap ∧ Hid (wr.ownsRow g0 2 1 (.slice (some ⟨g, 0, none⟩) k cap) k ((F k).map vi)) ∧ Hid (Below w2.heap.size w2 wr)) (fun _ iv _ => n - (intOf iv).toNat)
  case atStart =>
    have hstart := World.ownsRow_made (base := w2.heap.size) (size := 1) w2 #[] 0 (Nat.le_refl _) (by unfold maxLen; omega) rfl (e := 2)
    exact ⟨0, w2.heap.size, 0, by omega, rfl, rfl, hd (by rw [F0.out, hg0]; simpa using hstart), hd ((Below.refl _ _).alloc (Nat.le_refl _) _)⟩
  case round =>
    obtain ⟨k, g, cap, hk, rfl, rfl, HO, HB⟩ := hrel
    by_cases hlt : k < n
    · have k2 : (k : Int) < (n : Int) := Int.ofNat_lt.2 hlt
      have cE := rd_cell (HR.out.below HB.out) hlt
      have L := hd (fun w' (hb : Below w2.heap.size w2 w') => LT.out w' (below_tr hb HB2.out) _ (HS.out.below hb) k hlt)
      rw [E9.out] at L
      have fb := FB.out k hlt
      have fs := FS.out k
      have eb := EB.out k
      rw [eS] at fs
      have FK := hd fs
      have hgl := World.ownsRow.lt HO.out g rfl
      generalize lateF ts (eS ts n) k e (n - 1 - k) = x at *
      generalize (earlyL ts n n).getD k 0 = y at *
      have hw1 : IntKind.i64.wrap (x - y) = x - y := IntWalk.i64_in _ (by omega)
      have hsz : g0 ≤ wr.heap.size := by rw [hg0]; exact HB.out.size
      clear fs fb eb
      go_wp2_with fail
      go_region_held3 (fun w' => w'.cell? ⟨ge, k, none⟩ = some (.int .i64 y) ∧ Below w2.heap.size w2 w')
        (first | exact hk8 | exact ⟨below_at ((Below.refl _ _).alloc (Nat.le_refl _) _) HK.out.1, HK.out.2.alloc HK.out.2.size _⟩ | exact hkk | exact ⟨cE, below_drewN HB.out 1⟩ | (trace_state; fail))
        (first
          | (go_at_call 27; refine (L.out _ (‹_ ∧ Below w2.heap.size w2 _›).2).mono ?_; rintro e' w6 ⟨rfl, q6, hw6⟩; have hkk : w6.cell? ⟨ge, k, none⟩ = some (.int .i64 y) ∧ Below w2.heap.size w2 w6 := (by rw [hw6]; exact ⟨(‹_ ∧ Below w2.heap.size w2 _›).1, below_drewN (‹_ ∧ Below w2.heap.size w2 _›).2 q6⟩); have HK := hd hkk; have HO6 := hd (show w6.ownsRow g0 2 1 (.slice (some ⟨g, 0, none⟩) k cap) k ((F k).map vi) from (by rw [hw6]; exact HO.out)); have hz6 : g0 ≤ w6.heap.size := (by rw [hw6]; exact hsz); have HZ6 := hd hz6; clear hw6)
          | (refine step_app_int rfl _ _ rfl g0 g k cap ((F k).map vi) rfl (HO6.out.alloc _) _ (.int .i64 (x - y)) rfl ((World.cell?_alloc_new ..).trans rfl) rfl (by omega) (by have := HZ6.out; simp; omega) ?_; intro v' w7 k1 k2 k3; have hk8 : w7.cell? ⟨ge, k, none⟩ = some (.int .i64 y) ∧ Below w2.heap.size w2 w7 := ⟨k2.cell (below_at ((Below.refl _ _).alloc (Nat.le_refl _) _) HK.out.1) (by simp; omega), below_row k2 (HK.out.2.alloc HK.out.2.size _) (fun q e => by cases e; rw [← hg0]; exact hgl.1)⟩))
      obtain ⟨g', c', rfl, hg', _⟩ := own_form k1 (by omega)
      have HO7 := hd (show w7.ownsRow g0 2 1 (.slice (some ⟨g', 0, none⟩) (k + 1) c') (k + 1) ((F (k + 1)).map vi) by rw [FK.out, List.map_append]; exact k1)
      have HB7 := hd hk8.2
      clear k1 k2 k3 hk8 hkk HK HO6 HZ6 cE hw1
      go_wp2
      go_roundw
      case rel => exact ⟨k + 1, g', c', by omega, by go_num, by first | rfl | (push_cast; rfl) | simp, HO7, HB7⟩
      case measure => simp [intOf]; omega
    · obtain rfl : n = k := by omega
      go_wp2
      go_ret2
      exact ⟨.slice (some ⟨g, 0, none⟩) n cap, rfl, by rw [← HF.out]; exact own_mono HO.out (show w.heap.size ≤ g0 by rw [hg0]; exact HB2.out.size), below_tr HB.out HB2.out⟩
end Go.Proofs.Ytaeajjfdljpioaa
