/- Numbers drawn from bytes: the source's box, next and pick of the reference's draws; b10At of the laws. -/
import Derived.Test.YtkaopdpdfbkchaaProg
import Derived.Test.YtkaopdpdfbkchaaOwnF
import Derived.Test.YtkaopdpdfbkchaaBase
import Derived.Test.YtkaopdpdfbkchaaSlice
import Derived.Test.YtkaopdpdfbkchaaStoreBox
import Derived.Laws.BitsAllLaws
import Derived.Sort.AtCall
namespace Go.Proofs.Ytkaopdpdfbkchaa
open Go.RowKit Plain
set_option linter.unusedVariables false
set_option linter.unusedSimpArgs false
attribute [local go_sem ↓] Go.wp_at_zero Go.wp_at_succ
/-- the cells of bytes -/
def bys (l : List Nat) : List Value := l.map (fun x : Nat => Value.int .u8 (x : Int))
def SomeB (w : World) (r : Ending) (w' : World) : Prop := ∃ b, r = .returned (.bool b) ∧ w' = w
def SomeN (n : Nat) (w : World) (r : Ending) (w' : World) : Prop := ∃ q : Nat, q < n ∧ r = .returned (.int .i64 q) ∧ w' = w
def SBox (w : World) (g : Nat) (cs : Array Value) (t : TypeId) : Prop := w.heap[g]? = some (.cells cs t (0, 0))
theorem sbox_kept {w w' : World} {g : Nat} {cs : Array Value} {t : TypeId} {b : Option Nat} (h : SBox w g cs t) (hg : w.grownBy w' b) (hne : b ≠ some g) : SBox w' g cs t := by
  have hlt : g < w.heap.size := by
    rcases Nat.lt_or_ge g w.heap.size with h1 | h1
    · exact h1
    · rw [SBox, Array.getElem?_eq_none h1] at h; cases h
  rw [SBox, hg.block g hlt (fun e => hne e.symm)]
  exact h
theorem sbox_below {w w' : World} {g : Nat} {cs : Array Value} {t : TypeId} (h : SBox w g cs t) (hg : Below w.heap.size w w') : SBox w' g cs t := sbox_kept h (below_all hg none) (by simp)
theorem sbox_cell {w : World} {g : Nat} {cs : Array Value} {t : TypeId} (h : SBox w g cs t) (j : Nat) : w.cell? ⟨g, j, none⟩ = cs[j]? := cell_of_row w g j cs t _ h
theorem sbox3 {w : World} {g : Nat} {a b c : Value} {t : TypeId} (h : SBox w g #[a, b, c] t) : w.cell? ⟨g, 0, none⟩ = some a ∧ w.cell? ⟨g, 1, none⟩ = some b ∧ w.cell? ⟨g, 2, none⟩ = some c := ⟨sbox_cell h 0, sbox_cell h 1, sbox_cell h 2⟩
theorem sbox_free {w : World} {g : Nat} {cs : Array Value} {t : TypeId} (h : SBox w g cs t) (j : Nat) : w.frozen? ⟨g, j, none⟩ = false := frozen_of_row w g j cs t h
/-- the source's box: the bytes, where it stands, and its seed -/
def SrcBox (w : World) (g : Nat) (cv : Value) (at' seed : Int) : Prop := SBox w g #[cv, .int .i64 at', .int .u64 seed] 68
/-- a number drawn: only the source has turned -/
def Drawn (n : Nat) (g : Nat) (cv : Value) (A : Nat) (w : World) (r : Ending) (w' : World) : Prop :=
  ∃ (q A' : Nat) (seed : Int), q < n ∧ r = .returned (.int .i64 q) ∧ SrcBox w' g cv (A' : Int) seed ∧ A' ≤ A + 1 ∧ 0 ≤ seed ∧ seed < 18446744073709551616 ∧ w.grownBy w' (some g)
theorem and_byte {sd : Int} (h0 : 0 ≤ sd) (h1 : sd < 18446744073709551616) : ∃ q : Nat, q < 256 ∧ bits .and .u64 (sd / 1099511627776) 255 = (q : Int) := by
  obtain ⟨n, rfl⟩ := Int.eq_ofNat_of_zero_le h0
  refine ⟨(n / 1099511627776) &&& 255, Nat.lt_of_le_of_lt Nat.and_le_right (by omega), ?_⟩
  have e : (n : Int) / 1099511627776 = ((n / 1099511627776 : Nat) : Int) := by omega
  rw [e]
  exact u64_and_nat (n / 1099511627776) 255 (by omega) (by omega)
theorem mod_u64 (x : Int) : 0 ≤ IntKind.u64.wrap x ∧ IntKind.u64.wrap x < 18446744073709551616 := by
  show 0 ≤ x % _ ∧ x % _ < _
  exact ⟨Int.emod_nonneg _ (by decide), Int.emod_lt_of_pos _ (by decide)⟩
set_option maxHeartbeats 4000000 in
set_option maxRecDepth 100000 in
theorem next_any (g : Nat) (cv : Value) (xs : List Nat) (hx : ∀ x ∈ xs, x < 256) (A : Nat) (hA : A ≤ 100000) (seed : Int) (hs0 : 0 ≤ seed) (hs1 : seed < 18446744073709551616) (w : World) (hs : Sl w 1 cv xs.length (bys xs)) (hne : NeSl cv g) (hb : SrcBox w g cv A seed) :
    Calls Try.prog 34 #[.pointer (some ⟨g, 0, none⟩)] w (Drawn 256 g cv A w) := by
  obtain ⟨V, cap, rfl, hcap, hr⟩ := hs
  have hm := hr.2.1
  unfold maxLen at hm
  obtain ⟨c0, c1, c2⟩ := sbox3 hb
  have HB := hd hb
  have f1 := sbox_free hb 1
  have f2 := sbox_free hb 2
  have a1 : (0 : Int) ≤ (A : Int) := by omega
  have aw : IntKind.i64.wrap ((A : Int) + 1) = (A : Int) + 1 := IntWalk.i64_in _ (by omega)
  by_cases hlt : A < xs.length
  · obtain ⟨b, off, rfl, hc⟩ := hr.2.2 (by omega)
    have hc2 := hc A (.int .u8 (xs[A] : Int)) (by simp [bys, hlt])
    have h256 := hx _ (List.getElem_mem hlt)
    obtain ⟨y, hy⟩ : ∃ y, y = xs[A] := ⟨_, rfl⟩
    rw [← hy] at hc2 h256
    have hbg : b ≠ g := fun e => hne _ _ _ rfl (by omega) (by rw [e]; rfl)
    clear hc hr hy hne hx
    generalize xs.length = m at *
    have a2 : (A : Int) < (m : Int) := by omega
    have a3 : ¬ ((m : Int) ≤ (A : Int)) := by omega
    have a4 : (A : Int) + 1 ≤ (m : Int) := by omega
    go_enter Try.func34, Try.ntmps34
    go_wp2
    go_quiet (fail)
    go_wp2
    go_quiet (fail)
    go_wp2
    have HW := hd (mod_u64 (IntKind.u64.wrap (IntKind.u64.wrap (seed * 6364136223846793005) + (y : Int)) + 1442695040888963407))
    generalize IntKind.u64.wrap (IntKind.u64.wrap (IntKind.u64.wrap (seed * 6364136223846793005) + (y : Int)) + 1442695040888963407) = sd at *
    generalize hW : World.setCell (World.setCell (World.drewN w _) _ _) _ _ = W
    have H2 : SrcBox W g (.slice (some ⟨b, off, none⟩) m cap) ((A : Int) + 1) sd := by
      rw [← hW]
      exact heap_setCell_same _ g 2 _ _ _ (heap_setCell_same _ g 1 _ _ _ HB.out)
    have G2 := hd (show w.grownBy W (some g) by
      rw [← hW]
      exact (below_all (below_drewN (Below.refl _ w) _) _).trans ((grown_setCell _ g 1 _).trans (grown_setCell _ g 2 _)))
    clear hW f1 f2 c0 c1 c2
    have HS2 := hd H2
    obtain ⟨d0, d1, d2⟩ := sbox3 H2
    clear H2
    go_quiet (fail)
    go_wp2
    go_ret
    exact ⟨y, A + 1, sd, h256, rfl, HS2.out, by omega, HW.out.1, HW.out.2, G2.out.trans (below_all (below_drewN (Below.refl _ _) _) _)⟩
  · have a2 : ¬ ((A : Int) < (xs.length : Int)) := by omega
    have a3 : (xs.length : Int) ≤ (A : Int) := by omega
    have a4 : ¬ ((A : Int) + 1 ≤ (xs.length : Int)) := by omega
    clear hr hne hx
    generalize xs.length = m at *
    go_enter Try.func34, Try.ntmps34
    go_wp2
    go_quiet (fail)
    go_wp2
    have HW := hd (mod_u64 (IntKind.u64.wrap (IntKind.u64.wrap (seed * 6364136223846793005)) + 1442695040888963407))
    generalize IntKind.u64.wrap (IntKind.u64.wrap (IntKind.u64.wrap (seed * 6364136223846793005)) + 1442695040888963407) = sd at *
    generalize hW : World.setCell (World.setCell (World.drewN w _) _ _) _ _ = W
    have H2 : SrcBox W g (.slice V m cap) ((A : Int) + 1) sd := by
      rw [← hW]
      exact heap_setCell_same _ g 2 _ _ _ (heap_setCell_same _ g 1 _ _ _ HB.out)
    have G2 := hd (show w.grownBy W (some g) by
      rw [← hW]
      exact (below_all (below_drewN (Below.refl _ w) _) _).trans ((grown_setCell _ g 1 _).trans (grown_setCell _ g 2 _)))
    clear hW f1 f2 c0 c1 c2
    have HS2 := hd H2
    obtain ⟨d0, d1, d2⟩ := sbox3 H2
    clear H2
    obtain ⟨q, hq256, hq⟩ := and_byte HW.out.1 HW.out.2
    go_quiet (fail)
    go_wp2
    go_ret
    exact ⟨q, A + 1, sd, hq256, rfl, HS2.out, by omega, HW.out.1, HW.out.2, G2.out.trans (below_all (below_drewN (Below.refl _ _) _) _)⟩
set_option maxHeartbeats 4000000 in
set_option maxRecDepth 100000 in
theorem pick_any (g : Nat) (cv : Value) (xs : List Nat) (hx : ∀ x ∈ xs, x < 256) (A : Nat) (hA : A ≤ 100000) (seed : Int) (hs0 : 0 ≤ seed) (hs1 : seed < 18446744073709551616) (w : World) (hs : Sl w 1 cv xs.length (bys xs)) (hne : NeSl cv g) (hb : SrcBox w g cv A seed) (n : Nat) (n1 : 1 ≤ n) (n2 : n ≤ 200) :
    Calls Try.prog 16 #[.pointer (some ⟨g, 0, none⟩), .int .i64 n] w (Drawn n g cv A w) := by
  rcases Nat.lt_or_ge 1 n with h | h
  · have HN := hd (next_any g cv xs hx A hA seed hs0 hs1 w hs hne hb)
    have g1 : ¬ ((n : Int) ≤ 1) := by omega
    have g2 : ¬ ((200 : Int) < (n : Int)) := by omega
    have g3 : ¬ ((n : Int) = 0) := by omega
    have HQ := hd (fun q : Nat => show (q : Int).tmod (n : Int) = ((q % n : Nat) : Int) by rw [Int.tmod_eq_emod_of_nonneg (by omega)]; push_cast; rfl)
    have HL := hd (fun q : Nat => Nat.mod_lt q (show 0 < n by omega))
    clear hb hs hne hx
    go_enter Try.func16, Try.ntmps16
    go_wp2_with (go_at_call 34; refine HN.out.mono ?_; rintro e w' ⟨q, A', sd, hq, rfl, h1, h2, h3, h4, h5⟩; have H1 := hd h1; have H5 := hd h5; clear h1 h5; have hq2 := HQ.out q)
    go_ret
    refine ⟨q % n, A', sd, HL.out q, ?_, H1.out, h2, h3, h4, H5.out⟩
    push_cast; rfl
  · obtain rfl : n = 1 := by omega
    have HB := hd hb
    clear hb hs hne hx
    go_enter Try.func16, Try.ntmps16
    go_wp2
    go_ret
    exact ⟨0, A, seed, by omega, rfl, HB.out, by omega, hs0, hs1, below_all (Below.refl _ _) _⟩
set_option maxHeartbeats 400000 in
theorem l00From_any (V : Option Addr) (n cap : Nat) (w : World) : Calls Try.prog 15 #[.slice V n cap] w fun r w' => r = .returned (.pointer (some ⟨w.heap.size, 0, none⟩)) ∧ SrcBox w' w.heap.size (.slice V n cap) 0 0 ∧ Below w.heap.size w w' := by
  go_enter Try.func15, Try.ntmps15
  go_wp2
  go_ret
  refine ⟨rfl, ?_, (Below.refl _ _).alloc (Nat.le_refl _) _⟩
  show (World.alloc _ _).heap[_]? = _
  rw [heap_alloc_get, if_pos rfl]
end Go.Proofs.Ytkaopdpdfbkchaa
