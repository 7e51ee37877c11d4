/- The numbers of trips in order of their starts: contracts of the stable sort (at most 20), of sortedBy. -/
import Derived.Test.YtdkmloomlnljlaaProg
import Derived.Test.YtdkmloomlnljlaaSortI
import Derived.Test.YtdkmloomlnljlaaOwnF
namespace Go.Proofs.Ytdkmloomlnljlaa
open Go.RowKit Plain
set_option linter.unusedVariables false
set_option linter.unusedSimpArgs false
attribute [local go_sem ↓] Go.wp_at_zero Go.wp_at_succ
/-- what a sort of a row leaves -/
def SortB (base g n cd : Nat) (d : List Int) (w : World) (r : Ending) (w' : World) : Prop := (∃ v, r = .returned v) ∧ w'.ownsRow base 2 1 (.slice (some ⟨g, 0, none⟩) n cd) n (d.map vi) ∧ w.grownBy w' (some g)
set_option maxHeartbeats 2000000 in
theorem stable_any (l : List Q4) (ht : tripsB l = true) (A : Option Addr) (n cap bT bK : Nat) (hn : l.length = n) (n1 : 1 ≤ n) (n19 : n ≤ 19) (w : World) (g cd base : Nat) (d : List Int) (ho : w.ownsRow base 2 1 (.slice (some ⟨g, 0, none⟩) n cd) n (d.map vi)) (hin : inL n d)
    (hk : KeyB w bT bK A n cap) (hr : Rd w 4 A n (q4s l)) (e1 : bT ≠ g) (e2 : bK ≠ g) (e3 : A.map (·.block) ≠ some g) :
    Calls Try.prog 29 #[.slice (some ⟨g, 0, none⟩) n cd, .func (.func 30) #[] #[.pointer (some ⟨bK, 0, none⟩)]] w (SortB base g n cd (sortL (keyL l) d n) w) := by
  have I := hd (insert_any l ht A n cap bT bK hn n1 (by omega) w g cd base d ho hin hk hr e1 e2 e3)
  have S : Hid (Calls Try.prog 33 #[.slice (some ⟨g, 0, none⟩) n cd, .int .i64 n, .func (.func 30) #[] #[.pointer (some ⟨bK, 0, none⟩)]] w (SortB base g n cd (sortL (keyL l) d n) w)) := hd (by
    have n20 : ¬ (20 : Int) ≤ (n : Int) := by omega
    have n20' : ¬ (20 : Int) < (n : Int) := by omega
    clear hk hr ho hin ht e1 e2 e3
    go_enter Try.func33, Try.ntmps33
    go_upto_region 2 with fail
    go_loopw [7, 8] (fun av bv wr => av = .int .i64 0 ∧ bv = .int .i64 20 ∧ wr = w) (fun _ _ _ => 0)
    case atStart => exact ⟨rfl, rfl, rfl⟩
    case round =>
      obtain ⟨rfl, rfl, hw⟩ := hrel
      subst hw
      go_wp2_with fail
      go_at_call 37
      refine I.out.mono ?_
      rintro e w2 ⟨⟨v, rfl⟩, h2, h3⟩
      have H2 := hd h2
      have H3 := hd h3
      clear h2 h3 I
      go_wp2
      go_loopw [6] (fun bv wr => bv = .int .i64 20 ∧ wr = w2) (fun _ _ => 0)
      case atStart => exact ⟨rfl, rfl⟩
      case round =>
        obtain ⟨rfl, hw2⟩ := hrel
        subst hw2
        go_wp2
        refine bodyPost_end (results_none rfl _ _ _) rfl ?_
        exact ⟨⟨_, rfl⟩, H2.out, H3.out⟩)
  clear I ho hin hk hr ht e1 e2 e3
  go_enter Try.func29, Try.ntmps29
  go_wp2_with fail
  go_at_call 33
  refine S.out.mono ?_
  rintro e w2 ⟨⟨v, rfl⟩, h2, h3⟩
  have H2 := hd h2
  have H3 := hd h3
  clear h2 h3 S
  go_wp2
  refine bodyPost_end (results_none rfl _ _ _) rfl ?_
  exact ⟨⟨_, rfl⟩, H2.out, H3.out⟩
theorem inL_upTo (n : Nat) : inL n (upTo n) := by
  intro k hk
  rw [upTo_len] at hk
  rw [upTo, List.getD_eq_getElem?_getD, List.getElem?_map, List.getElem?_range hk]
  simp
  omega
theorem oneL_upTo (n : Nat) : oneL (upTo n) := by
  have e : ∀ k, k < n → (upTo n).getD k 0 = (k : Int) := fun k hk => by
    rw [upTo, List.getD_eq_getElem?_getD, List.getElem?_map, List.getElem?_range hk]; rfl
  intro a b ha hb h
  rw [upTo_len] at ha hb
  rw [e a ha, e b hb] at h
  omega
set_option maxHeartbeats 2000000 in
theorem sorted_any (l : List Q4) (ht : tripsB l = true) (A : Option Addr) (n cap bT : Nat) (hn : l.length = n) (n1 : 1 ≤ n) (n19 : n ≤ 19) (w : World) (hc : w.cell? ⟨bT, 0, none⟩ = some (.slice A n cap)) (hr : Rd w 4 A n (q4s l)) :
    Calls Try.prog 20 #[.int .i64 n, .func (.func 21) #[] #[.pointer (some ⟨bT, 0, none⟩)]] w fun r w' => ∃ u, r = .returned u ∧ w'.ownsRow w.heap.size 2 1 u n ((sortL (keyL l) (upTo n) n).map vi) ∧ Below w.heap.size w w' := by
  have hbT : bT < w.heap.size := block_lt_of_cell hc
  have hA : ∀ g, w.heap.size ≤ g → A.map (·.block) ≠ some g := fun g hg e => by
    obtain ⟨b, off, _, _, _, _, rfl, _, c0, _⟩ := hr.q4 (show 0 < n by omega)
    have := block_lt_of_cell c0
    simp only [Option.map_some, Option.some.injEq] at e
    simp only at this
    omega
  have HC := hd hc
  have HR := hd hr
  have HAb := hd hA
  have ST := hd (fun bK w g cd base ho hk hr e1 e2 e3 => stable_any l ht A n cap bT bK hn n1 n19 w g cd base (upTo n) ho (inL_upTo n) hk hr e1 e2 e3)
  clear hc hr hA ht hn
  go_enter Try.func20, Try.ntmps20
  go_wp2_with fail
  go_at_call 28
  obtain ⟨W, hW⟩ : ∃ W, W = w.alloc (.cells #[.func (.func 21) #[] #[.pointer (some ⟨bT, 0, none⟩)]] 44) := ⟨_, rfl⟩
  have hk1 : W.cell? ⟨w.heap.size, 0, none⟩ = some (.func (.func 21) #[] #[.pointer (some ⟨bT, 0, none⟩)]) := by rw [hW]; exact (World.cell?_alloc_new ..).trans rfl
  have hb1 : Below w.heap.size w W := by rw [hW]; exact (Below.refl _ _).alloc (Nat.le_refl _) _
  have hs1 : w.heap.size < W.heap.size := by rw [hW]; simp
  rw [← hW]
  clear hW
  refine (counting_any n (by omega) W).mono ?_
  rintro e w2 ⟨u, rfl, ho, hb2⟩
  obtain ⟨g, cd, rfl, hg, _⟩ := own_form ho n1
  have hB2 := below_tr hb2 hb1
  have S := ST.out w.heap.size w2 g cd W.heap.size ho ⟨below_at hB2 HC.out, below_at hb2 hk1⟩ (HR.out.below hB2) (by omega) (by omega) (HAb.out g (by omega))
  have S := hd S
  have HB2 := hd hB2
  have HW := hd (show w.heap.size ≤ W.heap.size by omega)
  have HGg := hd (show w.heap.size ≤ g by omega)
  clear ho hb2 hB2 hk1 hb1 hs1 hg ST
  go_wp2_with fail
  go_at_call 29
  refine S.out.mono ?_
  rintro e w3 ⟨⟨v, rfl⟩, h2, h3⟩
  have H2 := hd h2
  have H3 := hd h3
  clear h2 h3 S
  go_wp2
  go_ret
  exact ⟨_, rfl, own_mono H2.out HW.out, below_row H3.out HB2.out (fun k e => by cases e; exact HGg.out)⟩
end Go.Proofs.Ytdkmloomlnljlaa
