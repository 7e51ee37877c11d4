/- The table of all pairs of trips, on the reference's side; what is known of trips and moves that are valid. -/
import Derived.Test.YthgijjdkhffhcaaProg
import Derived.Test.YthgijjdkhffhcaaFollow
import Derived.Test.YthgijjdkhffhcaaCrews
import Derived.Test.YthgijjdkhffhcaaBSlice
namespace Go.Proofs.Ythgijjdkhffhcaa
open Go.RowKit Plain
set_option linter.unusedVariables false
set_option linter.unusedSimpArgs false
attribute [local go_sem ↓] Go.wp_at_zero Go.wp_at_succ

theorem trips_q {l : List Q4} (h : tripsB l = true) {k : Nat} {a b c d : Int} (hq : l[k]? = some ⟨a, b, c, d⟩) : ∃ nc nd : Nat, c = nc ∧ d = nd ∧ nc ≤ 7 ∧ nd ≤ 7 ∧ 0 ≤ a ∧ a ≤ 10000 ∧ 0 ≤ b ∧ b ≤ 10000 := by
  rw [tripsB, Bool.and_eq_true, List.all_eq_true] at h
  have := tripB_iff.1 (h.1 _ (List.mem_of_getElem? hq))
  simp only at this
  exact ⟨c.toNat, d.toNat, by omega, by omega, by omega, by omega, by omega, by omega, by omega, by omega⟩
theorem trips_len {l : List Q4} (h : tripsB l = true) : 1 ≤ l.length ∧ l.length ≤ 24 := by
  rw [tripsB, Bool.and_eq_true, decide_eq_true_eq] at h
  exact h.2
theorem moves_at {ms : List Int} (h : movesB ms = true) (i k : Nat) (hi : i ≤ 7) (hk : k ≤ 7) : 0 ≤ ms.getD (i * 8 + k) 0 ∧ ms.getD (i * 8 + k) 0 ≤ 1000 :=
  inR_iff.1 ((movesB_iff.1 h).2.1 _ (by omega))
theorem folB_nat (ms : List Int) (a b c a' b' d' : Int) (nd nc : Nat) : folB ms ⟨a, b, c, nd⟩ ⟨a', b', nc, d'⟩ = decide (b + ms.getD (nd * 8 + nc) 0 ≤ a') := by
  unfold folB
  rw [show ((nd : Int) * 8 + (nc : Int)).toNat = nd * 8 + nc by omega]

set_option maxHeartbeats 2000000 in
theorem l06Table_any (v u : Value) (l : List Q4) (ms : List Int) (w : World) (hs : Sl w 4 v l.length (q4s l)) (ht : Sl w 1 u ms.length (ms.map vi)) (h1 : tripsB l = true) (h2 : movesB ms = true) :
    Calls Try.prog 61 #[v, u] w (NewRow 4 1 (l.length * l.length) ((partF l ms (l.length * l.length)).map vb) w) := by
  have FO := hd (fun w' (a b c a' b' d' : Int) (nd nc i k : Nat) h hq hr e1 e2 e3 e4 e5 e6 => l06Follows_any a b c a' b' d' nd nc v u l ms i k w' (hs.below h) (ht.below h) hq hr (movesB_iff.1 h2).1 e1 e2 e3 e4 e5 e6)
  have TQ := hd (fun k a b c d hq => trips_q h1 (k := k) (a := a) (b := b) (c := c) (d := d) hq)
  have MA := hd (moves_at h2)
  have LQ := hd (fun k (h : k < l.length) => (⟨l[k].a, l[k].b, l[k].c, l[k].d, List.getElem?_eq_getElem h⟩ : ∃ a b c d, l[k]? = some ⟨a, b, c, d⟩))
  have CA := hd (fun i k a b ha hb => cellF_at (l := l) (m := ms) (i := i) (k := k) (a := a) (b := b) ha hb)
  obtain ⟨n1, n2⟩ := trips_len h1
  obtain ⟨A, cap, rfl, hcap, hr⟩ := hs
  obtain ⟨A', cap', rfl, hcap', hr'⟩ := ht
  clear h1 h2 hr hr' hcap'
  generalize ms.length = n' at *
  generalize hn : l.length = n at *
  have Hn := hd hn
  clear hn
  go_enter Try.func61, Try.ntmps61
  go_wp2
  have hstart := World.ownsRow_made (size := 1) w #[] 0 (Nat.le_refl _) (by unfold maxLen; omega) rfl (e := 4)
  go_loopw [5, 7] (fun out ix wr => ∃ i : Nat, i ≤ n ∧ ix = .int .i64 i ∧ wr.ownsRow w.heap.size 4 1 out (i * n) ((partF l ms (i * n)).map vb) ∧ Below w.heap.size w wr) (fun _ i _ => n - (intOf i).toNat)
  case atStart => exact ⟨0, by omega, rfl, by simpa [partF] using hstart, (Below.refl _ _).alloc (Nat.le_refl _) _⟩
  case round =>
    obtain ⟨i, hi, rfl, ho, hb⟩ := hrel
    clear hstart
    by_cases hlt : i < n
    · have Ho := hd ho; have Hb := hd hb
      clear ho hb
      go_wp2
      go_loopw [5, 8] (fun out ix wr => ∃ k : Nat, k ≤ n ∧ ix = .int .i64 k ∧ wr.ownsRow w.heap.size 4 1 out (i * n + k) ((partF l ms (i * n + k)).map vb) ∧ Below w.heap.size w wr) (fun _ i _ => n - (intOf i).toNat)
      case atStart => exact ⟨0, by omega, rfl, by simpa using Ho.out, Hb.out⟩
      case round =>
        obtain ⟨k, hk, rfl, ho, hb⟩ := hrel
        clear Ho Hb
        by_cases hkt : k < n
        · obtain ⟨a, b, c, d, hq⟩ := LQ.out i hlt
          obtain ⟨a', b', c', d', hq'⟩ := LQ.out k hkt
          obtain ⟨nc0, nd, rfl, rfl, _, g2, _, _, g3, g4⟩ := TQ.out _ _ _ _ _ hq
          obtain ⟨nc, nd0, rfl, rfl, g1, _, _⟩ := TQ.out _ _ _ _ _ hq'
          obtain ⟨m0, m1⟩ := MA.out nd nc g2 g1
          have F := hd (FO.out wr a b nc0 a' b' nd0 nd nc i k hb hq hq' g2 g1 g3 g4 m0 m1)
          have C := hd ((CA.out i k _ _ hq hq').trans (folB_nat ms a b nc0 a' b' nd0 nd nc))
          generalize decide (b + ms.getD (nd * 8 + nc) 0 ≤ a') = y at *
          have hlen : i * n + k ≤ 1048576 := by
            have : i * n ≤ 24 * 24 := Nat.mul_le_mul (by omega) (by omega)
            omega
          have Ho := hd ho; have Hb := hd hb
          clear ho hb hq hq' m0 m1 g1 g2 g3 g4
          go_wp2_with (first
            | (go_at_call 85; refine F.out.mono ?_; rintro e w2 ⟨rfl, mm, rfl⟩)
            | (at_builtin; go_must (refine wpList_app_bool _ _ _ rfl _ _ rfl w.heap.size (i * n + k) _ _ rfl (own_below Ho.out (below_drewN (Below.refl _ _) mm)) rfl _ rfl (by simp) hlen (Nat.le_trans Hb.out.size (by simp)) ?_); intro v' w1 ho1 hg1 hap))
          go_roundw
          case rel =>
            refine ⟨k + 1, by omega, by go_num, ?_, below_row hg1 (below_drewN Hb.out mm) (own_row Ho.out (Nat.le_refl _))⟩
            rw [← Nat.add_assoc, partF_succ, List.map_append, C.out]
            exact ho1
          case measure => simp [intOf]; omega
        · have e : k = n := by omega
          subst e
          have Ho := hd ho; have Hb := hd hb
          clear ho hb
          go_wp2
          go_roundw
          case rel => exact ⟨i + 1, by omega, by go_num, by rw [Nat.succ_mul]; exact Ho.out, Hb.out⟩
          case measure => simp [intOf]; omega
    · have e : i = n := by omega
      subst e
      go_wp2
      go_ret
      exact ⟨_, rfl, by simpa using ho, hb⟩
end Go.Proofs.Ythgijjdkhffhcaa
