/- CanFollow of the program: a contract (cut from the law's text). -/
import Derived.Test.YtjcmgjjnkbhamaaProg
import Derived.Test.YtjcmgjjnkbhamaaTable
namespace Go.Proofs.Ytjcmgjjnkbhamaa.FolI
open Go.RowKit Go.Proofs.Ytjcmgjjnkbhamaa Plain
set_option linter.unusedVariables false
set_option linter.unusedSimpArgs false
attribute [local go_sem ↓] Go.wp_at_zero Go.wp_at_succ

def M (l : List Q4) (ms : List Int) : List Bool × Bool := if tripsB l && movesB ms then (partF l ms (l.length * l.length), true) else ([], false)
theorem len_ok (l : List Q4) (_ : ∀ q ∈ l, q.I64) (_ : l.length ≤ 1048576) (ms : List Int) (_ : ∀ x ∈ ms, I64 x) (_ : ms.length ≤ 1048576) : (M l ms).1.length ≤ 1048576 := by
  unfold M
  split
  · rename_i h
    rw [Bool.and_eq_true] at h
    have := trips_len h.1
    have : l.length * l.length ≤ 24 * 24 := Nat.mul_le_mul (by omega) (by omega)
    rw [partF_len]
    omega
  · simp

set_option maxHeartbeats 4000000 in
theorem impl_any (w : World) (v : Value) (l : List Q4) (_i : ∀ q ∈ l, q.I64) (_b : l.length ≤ 1048576) (s : Sl w 4 v l.length (q4s l)) (u : Value) (ms : List Int) (_j : ∀ x ∈ ms, I64 x) (_c : ms.length ≤ 1048576) (t : Sl w 1 u ms.length (ms.map vi)) :
    Calls Try.prog 11 #[v, u] w (OutL 4 1 (M l ms).1.length ((M l ms).1.map vb) (fun z => .tuple #[z, .bool (M l ms).2]) w) := by
  have A1 := hd (AreTrips_any v l w s)
  have A2 := hd (fun w' h => AreMoves_any u ms w' (t.below h))
  have t0 := hd t
  clear t _i _j _b _c
  obtain ⟨A, cap, rfl, hcap, hr⟩ := s
  cases h1 : tripsB l with
  | false =>
    have H := hd (show M l ms = ([], false) by rw [M, h1]; rfl)
    rw [h1] at A1
    clear h1
    go_enter Try.func11, Try.ntmps11
    go_wp2_with (first | (go_at_call 12; refine A1.out.mono ?_; rintro e w' ⟨rfl, hb⟩) | (go_at_call 13; refine (A2.out _ hb).mono ?_; rintro e w' ⟨rfl, rfl⟩))
    go_ret2
    rw [H.out]
    exact ⟨_, rfl, World.ownsRow_nil _ _ _ _, hb⟩
  | true =>
    cases h2 : movesB ms with
    | false =>
      have H := hd (show M l ms = ([], false) by rw [M, h1, h2]; rfl)
      rw [h1] at A1
      rw [h2] at A2
      clear h1 h2
      go_enter Try.func11, Try.ntmps11
      go_wp2_with (first | (go_at_call 12; refine A1.out.mono ?_; rintro e w' ⟨rfl, hb⟩) | (go_at_call 13; refine (A2.out _ hb).mono ?_; rintro e w' ⟨rfl, rfl⟩))
      go_ret2
      rw [H.out]
      exact ⟨_, rfl, World.ownsRow_nil _ _ _ _, hb⟩
    | true =>
      have H := hd (show M l ms = (partF l ms (l.length * l.length), true) by rw [M, h1, h2]; rfl)
      have FO := hd (fun w' (a b c a' b' d' : Int) (nd nc : Nat) h e1 e2 e3 e4 e5 e6 => follows_any a b c a' b' d' nd nc u ms w' (t0.out.below h) (movesB_iff.1 h2).1 e1 e2 e3 e4 e5 e6)
      have TQ := hd (fun k a b c d hq => trips_q h1 (k := k) (a := a) (b := b) (c := c) (d := d) hq)
      have MA := hd (moves_at h2)
      have CA := hd (fun i k a b ha hb => cellF_at (l := l) (m := ms) (i := i) (k := k) (a := a) (b := b) ha hb)
      obtain ⟨n1, n2⟩ := trips_len h1
      rw [h1] at A1
      rw [h2] at A2
      clear h1 h2 t0
      have PL := hd (partF_len l ms (l.length * l.length))
      generalize hn : l.length = n at *
      have Hn := hd hn
      clear hn
      go_enter Try.func11, Try.ntmps11
      go_wp2_with (first | (go_at_call 12; refine A1.out.mono ?_; rintro e w0 ⟨rfl, hb00⟩) | (go_at_call 13; refine (A2.out _ hb00).mono ?_; rintro e w2 ⟨rfl, rfl⟩))
      clear A1 A2
      have hstart := own_mono (World.ownsRow_made (size := 1) w0 #[] 0 (Nat.le_refl _) (by unfold maxLen; omega) rfl (e := 4)) hb00.size
      have hbs := below_tr ((Below.refl _ w0).alloc (Nat.le_refl _) (.cells #[] 4)) hb00
      go_loopw [6, 22] (fun out ix wr => ∃ i : Nat, i ≤ n ∧ ix = .int .i64 i ∧ wr.ownsRow w.heap.size 4 1 out (i * n) ((partF l ms (i * n)).map vb) ∧ Below w.heap.size w wr) (fun _ i _ => n - (intOf i).toNat)
      case atStart => exact ⟨0, by omega, rfl, by simpa [partF] using hstart, hbs⟩
      case round =>
        obtain ⟨i, hi, rfl, ho, hb⟩ := hrel
        clear hstart hbs hb00
        by_cases hlt : i < n
        · obtain ⟨b, off, qa, qb, qc, qd, rfl, hq, c0, c1, c2, c3⟩ := (hr.below hb).q4 hlt
          have Ho := hd ho; have Hb := hd hb
          clear ho hb
          obtain ⟨wo, hwo⟩ : ∃ wo : World, wo = wr := ⟨_, rfl⟩
          subst hwo
          go_wp2
          have HB2 := hd (show Below wo.heap.size wo (wo.alloc (.cells #[.int .i64 qa, .int .i64 qb, .int .i64 qc, .int .i64 qd] 40)) from (Below.refl _ _).alloc (Nat.le_refl _) _)
          have HD := hd (show Dj (.slice (some ⟨wo.heap.size, 0, none⟩) 4 4) _ from fun k hk he => by
            have := own_in Ho.out k he
            simp [Value.ownBlock] at hk
            omega)
          clear c0 c1 c2 c3
          go_loopw [6, 28] (fun out ix wr => ∃ k : Nat, k ≤ n ∧ ix = .int .i64 k ∧ wr.ownsRow w.heap.size 4 1 out (i * n + k) ((partF l ms (i * n + k)).map vb) ∧ Dj (.slice (some ⟨wo.heap.size, 0, none⟩) 4 4) out ∧ (wr.cell? ⟨wo.heap.size, 0, none⟩ = some (.int .i64 qa) ∧ wr.cell? ⟨wo.heap.size, 1, none⟩ = some (.int .i64 qb) ∧ wr.cell? ⟨wo.heap.size, 2, none⟩ = some (.int .i64 qc) ∧ wr.cell? ⟨wo.heap.size, 3, none⟩ = some (.int .i64 qd)) ∧ Below w.heap.size w wr) (fun _ i _ => n - (intOf i).toNat)
          case atStart => exact ⟨0, by omega, rfl, by simpa using own_below Ho.out HB2.out, HD.out, by simp [go_sem], below_tr HB2.out Hb.out⟩
          case round =>
            obtain ⟨k, hk, rfl, ho, hdj, ⟨x0, x1, x2, x3⟩, hb⟩ := hrel
            clear Ho HD HB2
            by_cases hkt : k < n
            · obtain ⟨b', off', ra, rb, rc, rd, hA, hq', d0, d1, d2, d3⟩ := (hr.below hb).q4 hkt
              cases hA
              obtain ⟨nc0, nd, rfl, rfl, _, g2, _, _, g3, g4⟩ := TQ.out _ _ _ _ _ hq.out
              obtain ⟨nc, nd0, rfl, rfl, g1, _, _⟩ := TQ.out _ _ _ _ _ hq'.out
              obtain ⟨m0, m1⟩ := MA.out nd nc g2 g1
              obtain ⟨wi, hwi⟩ : ∃ wi : World, wi = wr := ⟨_, rfl⟩
              subst hwi
              have hbB : Below wi.heap.size wi (wi.alloc (.cells #[.int .i64 ra, .int .i64 rb, .int .i64 nc, .int .i64 nd0] 40)) := (Below.refl _ _).alloc (Nat.le_refl _) _
              have F := hd (FO.out _ qa qb nc0 ra rb nd0 nd nc (below_tr hbB hb) g2 g1 g3 g4 m0 m1)
              have C := hd ((CA.out i k _ _ hq.out hq'.out).trans (folB_nat ms qa qb nc0 ra rb nd0 nd nc))
              generalize decide (qb + ms.getD (nd * 8 + nc) 0 ≤ ra) = y at *
              have hlen : i * n + k ≤ 1048576 := by
                have : i * n ≤ 24 * 24 := Nat.mul_le_mul (by omega) (by omega)
                omega
              have hlt9 : wo.heap.size < wi.heap.size := block_lt_of_cell x0
              have Ho := hd ho; have Hb := hd hb; have HD := hd hdj; have HbB := hd hbB
              have X := hd (And.intro x0 (And.intro x1 (And.intro x2 x3)))
              clear ho hb hdj hbB m0 m1 g1 g2 g3 g4 hr
              go_wp2_with (first
                | (go_at_call 19; refine F.out.mono ?_; rintro e w2 ⟨rfl, hb2⟩)
                | (at_builtin; go_must (refine wpList_app_bool _ _ _ rfl _ _ rfl w.heap.size (i * n + k) _ _ rfl (own_below Ho.out (below_tr hb2 HbB.out)) rfl _ rfl (by simp) hlen (by have := Hb.out.size; have := HbB.out.size; have := hb2.size; omega) ?_); intro v' w1 ho1 hg1 hap))
              go_roundw
              case rel =>
                have hb3 := below_tr hb2 HbB.out
                have hin := own_in (own_below Ho.out hb3)
                have hgs : ∀ (o : Nat) (z : Value), wi.cell? ⟨wo.heap.size, o, none⟩ = some z → w1.cell? ⟨wo.heap.size, o, none⟩ = some z := fun o z hz => hg1.cell (below_at hb3 hz) (fun e => HD.out wo.heap.size rfl e.symm)
                refine ⟨k + 1, by omega, by go_num, ?_, ?_, ⟨hgs _ _ X.out.1, hgs _ _ X.out.2.1, hgs _ _ X.out.2.2.1, hgs _ _ X.out.2.2.2⟩, below_row hg1 (below_tr hb3 Hb.out) (own_row Ho.out (Nat.le_refl _))⟩
                · rw [← Nat.add_assoc, partF_succ, List.map_append, C.out]
                  exact ho1
                · exact hap _ (fun j hj => by simp [Value.ownBlock] at hj; have := hb3.size; omega) HD.out
              case measure => simp [intOf]; omega
            · have e : k = n := by omega
              subst e
              have Ho := hd ho; have Hb := hd hb
              clear ho hb hdj x0 x1 x2 x3
              go_wp2
              go_roundw
              case rel => exact ⟨i + 1, by omega, by go_num, by rw [Nat.succ_mul]; exact Ho.out, Hb.out⟩
              case measure => simp [intOf]; omega
        · have e : i = n := by omega
          subst e
          go_wp2
          go_ret2
          rw [H.out]
          refine ⟨_, rfl, ?_, hb⟩
          simp only [PL.out]
          exact ho
end Go.Proofs.Ytjcmgjjnkbhamaa.FolI
