/- VehicleBound of the program: a contract (cut from the law's text). -/
import Derived.Test.YtjcmgjjnkbhamaaProg
import Derived.Test.YtjcmgjjnkbhamaaTrips
import Derived.Test.YtjcmgjjnkbhamaaQSlice
import Derived.Test.YtjcmgjjnkbhamaaMaxMin
namespace Go.Proofs.Ytjcmgjjnkbhamaa.BndI
open Go.RowKit Go.Proofs.Ytjcmgjjnkbhamaa Plain
set_option linter.unusedVariables false
set_option linter.unusedSimpArgs false
attribute [local go_sem ↓] Go.wp_at_zero Go.wp_at_succ

/-- how many of the first k trips are under way at t -/
def cntTo (l : List Q4) (t : Int) : Nat → Int
  | 0 => 0
  | k + 1 => cntTo l t k + match l[k]? with | some q => if q.a ≤ t ∧ t < q.b then 1 else 0 | none => 0
theorem cnt_yes {l : List Q4} {t : Int} {k : Nat} {q : Q4} (h : l[k]? = some q) (h1 : q.a ≤ t) (h2 : t < q.b) : cntTo l t (k + 1) = cntTo l t k + 1 := by
  rw [cntTo, h]; simp [h1, h2]
theorem cnt_no {l : List Q4} {t : Int} {k : Nat} {q : Q4} (h : l[k]? = some q) (h1 : ¬ (q.a ≤ t ∧ t < q.b)) : cntTo l t (k + 1) = cntTo l t k := by
  rw [cntTo, h]; simp only; rw [if_neg h1]; simp
theorem cnt_bd (l : List Q4) (t : Int) (k : Nat) : 0 ≤ cntTo l t k ∧ cntTo l t k ≤ k := by
  induction k with
  | zero => simp [cntTo]
  | succ k ih =>
    rw [cntTo]
    split
    · split <;> omega
    · omega
/-- the most under way when one of the first k trips begins -/
def mostTo (l : List Q4) : Nat → Int
  | 0 => 0
  | k + 1 => match l[k]? with | some q => max (mostTo l k) (cntTo l q.a l.length) | none => mostTo l k
theorem most_succ {l : List Q4} {k : Nat} {q : Q4} (h : l[k]? = some q) : mostTo l (k + 1) = max (mostTo l k) (cntTo l q.a l.length) := by
  rw [mostTo, h]
def M (l : List Q4) : Int × Bool := if tripsB l then (mostTo l l.length, true) else (0, false)

set_option maxHeartbeats 2000000 in
set_option maxRecDepth 100000 in
theorem impl_any (w : World) (v : Value) (l : List Q4) (_i : ∀ y ∈ l, y.I64) (_b : l.length ≤ 1048576) (s : Sl w 4 v l.length (q4s l)) :
    Calls Try.prog 9 #[v] w fun r w' => r = .returned (.tuple #[.int .i64 (M l).1, .bool (M l).2]) ∧ Below w.heap.size w w' := by
  have ht := hd (AreTrips_any v l w s)
  obtain ⟨A, cap, rfl, hcap, hr⟩ := s
  clear _i
  cases h1 : tripsB l with
  | false =>
    have H := hd (show M l = (0, false) by rw [M, h1]; rfl)
    rw [h1] at ht
    clear h1
    go_enter Try.func9, Try.ntmps9
    go_wp2_with (go_at_call 12; refine ht.out.mono ?_; rintro e w' ⟨rfl, hb⟩)
    go_ret2
    rw [H.out]
    exact ⟨rfl, hb⟩
  | true =>
    have H := hd (show M l = (mostTo l l.length, true) by rw [M, h1]; rfl)
    rw [h1] at ht
    clear h1
    generalize hn : l.length = n at *
    have Hn := hd hn
    clear hn
    go_enter Try.func9, Try.ntmps9
    go_wp2_with (go_at_call 12; refine ht.out.mono ?_; rintro e w1 ⟨rfl, hb1⟩)
    clear ht
    go_loopw [4, 15] (fun m i wr => ∃ k : Nat, k ≤ n ∧ i = .int .i64 k ∧ m = .int .i64 (mostTo l k) ∧ Below w.heap.size w wr) (fun _ i _ => n - (intOf i).toNat)
    case atStart => exact ⟨0, by omega, rfl, rfl, hb1⟩
    case round =>
      obtain ⟨k, hk, rfl, rfl, hb⟩ := hrel
      clear hb1
      by_cases hlt : k < n
      · obtain ⟨b, off, qa, qb, qc, qd, rfl, hq, c0, c1, c2, c3⟩ := (hr.below hb).q4 hlt
        have Hb := hd hb
        clear hb
        obtain ⟨wo, hwo⟩ : ∃ wo : World, wo = wr := ⟨_, rfl⟩
        subst hwo
        go_wp2
        have HB2 := hd (show Below wo.heap.size wo (wo.alloc (.cells #[.int .i64 qa, .int .i64 qb, .int .i64 qc, .int .i64 qd] 40)) from (Below.refl _ _).alloc (Nat.le_refl _) _)
        clear c0 c1 c2 c3
        go_loopw [7, 21] (fun m i wr => ∃ j : Nat, j ≤ n ∧ i = .int .i64 j ∧ m = .int .i64 (cntTo l qa j) ∧ wr.cell? ⟨wo.heap.size, 0, none⟩ = some (.int .i64 qa) ∧ Below wo.heap.size wo wr) (fun _ i _ => n - (intOf i).toNat)
        case atStart => exact ⟨0, by omega, rfl, rfl, by simp [go_sem], HB2.out⟩
        case round =>
          obtain ⟨j, hj, rfl, rfl, hbox, hbj⟩ := hrel
          by_cases hjt : j < n
          · obtain ⟨b', off', ra, rb, rc, rd, hA, hq', d0, d1, d2, d3⟩ := ((hr.below Hb.out).below hbj).q4 hjt
            cases hA
            obtain ⟨e1, e2⟩ := cnt_bd l qa j
            have hlt9 : wo.heap.size < wr.heap.size := block_lt_of_cell hbox
            have Hbj := hd hbj
            have Hbox := hd hbox
            clear hr hbj
            go_wp2
            all_goals
              go_roundw
              case rel =>
                refine ⟨j + 1, by omega, by go_num, ?_, cell_later ((Below.refl _ _).alloc (Nat.le_refl _) _) Hbox.out, Hbj.out.alloc Hbj.out.size _⟩
                first
                  | rw [cnt_yes hq'.out (by assumption) (by assumption)]
                  | rw [cnt_no hq'.out (by simp only; omega)]
              case measure => simp [intOf]; omega
          · have e : j = n := by omega
            subst e
            obtain ⟨e1, e2⟩ := cnt_bd l qa j
            have Hm := hd (most_succ hq.out)
            rw [Hn.out] at Hm
            have Hbj := hd (below_tr hbj Hb.out)
            clear hbj hbox
            go_wp2
            go_roundw
            case rel => exact ⟨k + 1, by omega, by go_num, by rw [Hm.out]; simp [ite_max], Hbj.out⟩
            case measure => simp [intOf]; omega
      · have e : k = n := by omega
        subst e
        go_wp2
        go_ret2
        rw [H.out]
        exact ⟨rfl, hb⟩
end Go.Proofs.Ytjcmgjjnkbhamaa.BndI
