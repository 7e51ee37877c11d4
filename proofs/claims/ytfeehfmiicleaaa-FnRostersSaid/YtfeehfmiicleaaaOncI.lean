/- OnCalls of the program: a contract (cut from the law's text). -/
import Derived.Test.YtfeehfmiicleaaaProg
import Derived.Test.YtfeehfmiicleaaaNum
import Derived.Test.YtfeehfmiicleaaaMaxMin
import Derived.Test.YtfeehfmiicleaaaApp
import Derived.Test.YtfeehfmiicleaaaOnC
import Derived.Test.YtfeehfmiicleaaaBlockT
import Derived.Test.YtfeehfmiicleaaaSlice
namespace Go.Proofs.Ytfeehfmiicleaaa.OncI
open Go.RowKit Go.Proofs.Ytfeehfmiicleaaa Plain
set_option linter.unusedVariables false
set_option linter.unusedSimpArgs false
attribute [local go_sem ↓] Go.wp_at_zero Go.wp_at_succ

/-- the numbers are right -/
def okB (p d : Int) (sets : List Int) : Bool := inR p 1 12 && (inR d 1 128 && manyIn sets d d 0 (2 ^ p.toNat - 1))
def M (p d : Int) (sets : List Int) : List Int × Bool := if okB p d sets then (match callsTo p.toNat sets sets.length with | none => ([], false) | some s => (s.out, true)) else ([], false)
theorem len_ok (p : Int) (_ : I64 p) (d : Int) (_ : I64 d) (sets : List Int) (_ : ∀ x ∈ sets, I64 x) (h : sets.length ≤ 1048576) : (M p d sets).1.length ≤ 1048576 := by
  unfold M
  split
  · cases e : callsTo p.toNat sets sets.length with
    | none => simp
    | some s => simp only; rw [(callsTo_ok sets _ e).outl]; omega
  · simp

set_option maxHeartbeats 4000000 in
set_option maxRecDepth 100000 in
theorem impl_any (w : World) (p : Int) (ip : I64 p) (d : Int) (id : I64 d) (v2 : Value) (sets : List Int) (i2 : ∀ x ∈ sets, I64 x) (b2 : sets.length ≤ 1048576) (s2 : Sl w 1 v2 sets.length (sets.map vi)) :
    Calls Try.prog 8 #[.int .i64 p, .int .i64 d, v2] w (OutL 2 1 (M p d sets).1.length ((M p d sets).1.map vi) (fun u => .tuple #[u, .bool (M p d sets).2]) w) := by
  have A2 := hd (fun w' few many lo hi h => areMany_any v2 sets few many lo hi w' (s2.below h))
  obtain ⟨As, cs, rfl, hcs, hs⟩ := s2
  cases h1 : inR p 1 12 with
  | false =>
    have H := hd (show M p d sets = ([], false) by rw [M, okB, h1]; rfl)
    go_enter Try.func8, Try.ntmps8
    go_wp2_with (go_at_call 14; refine (arePeople_any _ _).mono ?_; rintro e w' ⟨rfl, rfl⟩)
    go_ret2
    rw [H.out]
    exact ⟨_, rfl, World.ownsRow_nil _ _ _ _, Below.refl _ _⟩
  | true =>
    cases h2 : inR d 1 128 with
    | false =>
      have H := hd (show M p d sets = ([], false) by rw [M, okB, h1, h2]; rfl)
      go_enter Try.func8, Try.ntmps8
      go_wp2_with (first
        | (go_at_call 14; refine (arePeople_any _ _).mono ?_; rintro e w' ⟨rfl, rfl⟩)
        | (go_at_call 15; refine (within_any _ _ _ _).mono ?_; rintro e w' ⟨rfl, rfl⟩))
      go_ret2
      rw [H.out]
      exact ⟨_, rfl, World.ownsRow_nil _ _ _ _, Below.refl _ _⟩
    | true =>
      obtain ⟨p1, p2⟩ := inR_iff.1 h1
      obtain ⟨m, rfl⟩ := Int.eq_ofNat_of_zero_le (show 0 ≤ p by omega)
      obtain ⟨d1, d2⟩ := inR_iff.1 h2
      have hP1 : (0 : Int) < 2 ^ m := Int.pow_pos (by decide)
      have hP2 : (2 : Int) ^ m ≤ 4096 := by
        have : (2 : Nat) ^ m ≤ 2 ^ 12 := Nat.pow_le_pow_right (by omega) (by omega)
        have h3 : ((2 ^ m : Nat) : Int) ≤ ((2 ^ 12 : Nat) : Int) := by omega
        simpa using h3
      cases h3 : manyIn sets d d 0 (2 ^ m - 1) with
      | false =>
        have H := hd (show M m d sets = ([], false) by rw [M, okB, h1, h2, Int.toNat_natCast, h3]; rfl)
        go_enter Try.func8, Try.ntmps8
        go_wp2_with (first
          | (go_at_call 14; refine (arePeople_any _ _).mono ?_; rintro e w' ⟨rfl, rfl⟩)
          | (go_at_call 15; refine (within_any _ _ _ _).mono ?_; rintro e w' ⟨rfl, rfl⟩)
          | (go_at_call 16; refine (A2.out _ _ _ _ _ (Below.refl _ _)).mono ?_; rintro e w' ⟨rfl, rfl⟩))
        go_ret2
        rw [H.out]
        exact ⟨_, rfl, World.ownsRow_nil _ _ _ _, Below.refl _ _⟩
      | true =>
        have H := hd (show M m d sets = (match callsTo m sets sets.length with | none => ([], false) | some s => (s.out, true)) by rw [M, okB, h1, h2, Int.toNat_natCast, h3]; rfl)
        obtain ⟨f1, f2, f3⟩ := many_bd h3
        have OK := hd (fun k s e => callsTo_ok (m := m) sets k (s := s) e)
        have F := hd (fun i hi => all_getD f3 i hi)
        generalize hn : sets.length = n at *
        have Hn := hd hn
        obtain rfl : d = n := by omega
        clear hn f1 f2 f3 i2 ip id
        go_enter Try.func8, Try.ntmps8
        go_wp2_with (first
          | (go_at_call 14; refine (arePeople_any _ _).mono ?_; rintro e w' ⟨rfl, rfl⟩)
          | (go_at_call 15; refine (within_any _ _ _ _).mono ?_; rintro e w' ⟨rfl, rfl⟩)
          | (go_at_call 16; refine (A2.out _ _ _ _ _ (Below.refl _ _)).mono ?_; rintro e w' ⟨rfl, rfl⟩)
          | (at_make; go_must (refine wpList_make_int _ rfl _ rfl _ _ m rfl rfl (by omega) ?_); intro w1 ho2 hb1))
        clear A2 h1 h2 h3
        have hs1 := World.ownsRow_made (size := 1) w1 #[] 0 (Nat.le_refl _) (by unfold maxLen; omega) rfl (e := 2)
        go_loopw [9, 10, 39] (fun out ls ix wr => ∃ (k : Nat) (s : CallSt), k ≤ n ∧ ix = .int .i64 k ∧ Hid (callsTo m sets k = some s) ∧ ls = .int .i64 s.last ∧ wr.ownsRow w.heap.size 2 1 (.slice (some ⟨w.heap.size, 0, none⟩) m m) m (s.C.map vi) ∧ wr.ownsRow w.heap.size 2 1 out k (s.out.map vi) ∧ Dj (.slice (some ⟨w.heap.size, 0, none⟩) m m) out ∧ Below w.heap.size w wr) (fun _ _ ix _ => n - (intOf ix).toNat)
        case atStart =>
          refine ⟨0, _, by omega, rfl, hd rfl, rfl, ?_, own_mono hs1 hb1.size, ?_, below_tr ((Below.refl _ _).alloc (Nat.le_refl _) _) hb1⟩
          · simpa [vi] using own_below ho2 ((Below.refl _ _).alloc (Nat.le_refl _) _)
          · exact dj_new ho2 hs1
        case round =>
          obtain ⟨k, s, hk, rfl, hst, rfl, hC, ho, hdj, hB⟩ := hrel
          clear ho2 hb1 hs1
          by_cases hlt : k < n
          · obtain ⟨bb, off, rfl, hc⟩ := (hs.below hB).int hlt
            have ok := OK.out k s hst.out
            obtain ⟨q1, q2⟩ := F.out k hlt
            obtain ⟨q, hq⟩ := Int.eq_ofNat_of_zero_le q1
            rw [hq] at hc q2
            have hq64 : q < 2 ^ m := by
              have : ((2 ^ m : Nat) : Int) = 2 ^ m := by simp
              omega
            have h263 : (2 : Nat) ^ m < 2 ^ 63 := Nat.pow_lt_pow_right (by omega) (by omega)
            have ET : bits .andNot .i64 (2 ^ m - 1) (q : Int) = ((there m q : Nat) : Int) := by
              have e : (2 : Int) ^ m - 1 = ((2 ^ m - 1 : Nat) : Int) := by
                have : ((2 ^ m : Nat) : Int) = 2 ^ m := by simp
                omega
              rw [e]
              exact i64_andNot _ _ (by omega) (by omega)
            have htl := there_lt m q
            have PN := hd (fun h => pick_none (m := m) (set := q) (last := s.last) (C := s.C) h ok.lst.2)
            have PW := hd (fun h0 h => pick_whole (m := m) (set := q) (last := s.last) (C := s.C) h0 ok.lst.2 h)
            have PL := hd (fun h0 h1 h2 => pick_less (m := m) (set := q) (last := s.last) (C := s.C) h0 ok.lst.2 h1 h2)
            have HN : Hid (callsTo m sets (k + 1) = if pick q s.last s.C m < 0 then none
                else some ⟨s.C.set (pick q s.last s.C m).toNat (s.C.getD (pick q s.last s.C m).toNat 0 + 1), s.out ++ [pick q s.last s.C m], pick q s.last s.C m⟩) := by
              have := hst.out
              have e : (sets.getD k 0).toNat = q := by rw [hq]; rfl
              rw [Hid, callsTo, this]
              simp only [e]
            generalize there m q = t at *
            have hbd := pick_bd (set := q) (C := s.C) ok.lst.2
            generalize pick q s.last s.C m = pk at *
            obtain ⟨l1, l2⟩ := ok.lst
            have HC := hd hC; have HO := hd ho; have HD := hd hdj; have HB := hd hB; have OK1 := hd ok
            clear hC ho hdj hB hq64 ok
            by_cases ht0 : t = 0
            · subst ht0
              have hno := hd (show callsTo m sets n = none by
                refine callsTo_stop (d := k + 1) ?_ (by omega)
                rw [HN.out, if_pos (by have := PN.out rfl; omega)])
              have H2 := hd (show M m n sets = ([], false) by rw [H.out, hno.out])
              have e0 : bits .andNot .i64 (2 ^ m - 1) (q : Int) = 0 := ET
              clear ET
              go_wp2
              go_ret2
              rw [H2.out]
              exact ⟨_, rfl, World.ownsRow_nil _ _ _ _, HB.out⟩
            · have hne : ((t : Int) == 0) = false := by simpa using ht0
              have HX : ∃ T : Nat, T < 2 ^ 63 ∧ Hid (bestTo (fun i => T.testBit i) s.C m = pk) ∧ 0 ≤ pk ∧
                  ((decide (0 ≤ s.last) = false ∧ T = t) ∨
                   (∃ j : Nat, s.last = (j : Int) ∧ min j 64 = j ∧ (2 : Int) ^ j ≤ 4096 ∧ (0 : Int) < 2 ^ j ∧ ((t : Int) != 2 ^ j) = false ∧ T = t) ∨
                   (∃ j : Nat, s.last = (j : Int) ∧ min j 64 = j ∧ (2 : Int) ^ j ≤ 4096 ∧ (0 : Int) < 2 ^ j ∧ ((t : Int) != 2 ^ j) = true ∧ bits .andNot .i64 (t : Int) (2 ^ j) = (T : Int))) := by
                by_cases hl0 : s.last < 0
                · have HP := PW.out ht0 (.inl hl0)
                  exact ⟨t, by omega, hd HP.1, HP.2, .inl ⟨by simp; omega, rfl⟩⟩
                · obtain ⟨j, hj⟩ := Int.eq_ofNat_of_zero_le (show 0 ≤ s.last by omega)
                  have hJ1 : (0 : Int) < 2 ^ j := Int.pow_pos (by decide)
                  have hJ2 : (2 : Int) ^ j ≤ 4096 := by
                    have : (2 : Nat) ^ j ≤ 2 ^ 12 := Nat.pow_le_pow_right (by omega) (by omega)
                    have h3 : ((2 ^ j : Nat) : Int) ≤ ((2 ^ 12 : Nat) : Int) := by omega
                    simpa using h3
                  have e : (2 : Int) ^ j = ((2 ^ j : Nat) : Int) := by simp
                  have ej : s.last.toNat = j := by omega
                  by_cases hone : t = 2 ^ j
                  · have HP := PW.out ht0 (.inr ⟨by omega, by rw [ej]; exact hone⟩)
                    exact ⟨t, by omega, hd HP.1, HP.2, .inr (.inl ⟨j, hj, by omega, hJ2, hJ1, by simp [hone], rfl⟩)⟩
                  · have HP := PL.out ht0 (by omega) (by rw [ej]; exact hone)
                    rw [ej] at HP
                    exact ⟨mns t (2 ^ j), mns_lt (by omega), hd HP.1, HP.2, .inr (.inr ⟨j, hj, by omega, hJ2, hJ1, by rw [bne_iff_ne]; omega, by rw [e]; exact i64_andNot _ _ (by omega) (by omega)⟩)⟩
              obtain ⟨T, hT63, HP, hpk, hcs3⟩ := HX
              clear PN PW PL ht0
              obtain ⟨wo, rfl⟩ : ∃ wo : World, wo = wr := ⟨_, rfl⟩
              have CL := hd OK1.out.len
              have HCS := hd (fun x (hx : x < m) => show wo.cell? ⟨w.heap.size, x, none⟩ = some (.int .i64 (s.C.getD x 0)) from by
                rw [HC.out.cellAt x (by omega), List.getElem?_map, List.getD_eq_getElem?_getD, List.getElem?_eq_getElem (by rw [CL.out]; exact hx)]; rfl)
              have HNN := hd (HN.out.trans (if_neg (by omega)))
              clear HN
              rcases hcs3 with ⟨hl0, rfl⟩ | ⟨j, hj, j64, hJ2, hJ1, hb, rfl⟩ | ⟨j, hj, j64, hJ2, hJ1, hb, EM⟩
              all_goals
                try rw [hj]
                try rw [hj] at l1 l2
                go_wp2
                try clear hb
                try clear EM
                try clear hl0
                go_loopw [14, 63] (fun bv ix wr => ∃ x : Nat, x ≤ m ∧ ix = .int .i64 x ∧ bv = .int .i64 (bestTo (fun i => T.testBit i) s.C x) ∧ ∃ dr, wr = wo.drewN dr) (fun _ ix _ => m - (intOf ix).toNat)
                case atStart => exact ⟨0, by omega, rfl, rfl, 0, rfl⟩
                case round =>
                  obtain ⟨x, hx, rfl, rfl, dr, rfl⟩ := hrel
                  by_cases hxm : x < m
                  · have hb1 := bestTo_bd (fun i => T.testBit i) s.C x
                    have HB1 := hd (bestTo_succ (fun i => T.testBit i) s.C x)
                    have hcx := HCS.out x hxm
                    have E := i64_bit' T x hT63 (by omega)
                    have x64 : min x 64 = x := by omega
                    generalize bestTo (fun i => T.testBit i) s.C x = b at *
                    cases hbit : T.testBit x with
                    | false =>
                      have HR := hd (show bestTo (fun i => T.testBit i) s.C (x + 1) = b by rw [HB1.out, hbit]; rfl)
                      rw [hbit, if_neg (by simp)] at E
                      clear hbit HB1
                      go_wp2
                      go_quiet (fail)
                      go_wp2
                      go_roundw
                      case rel => exact ⟨x + 1, by omega, by go_num, by rw [HR.out], _, rfl⟩
                      case measure => simp [intOf]; omega
                    | true =>
                      rw [hbit, if_pos rfl] at E
                      by_cases hb0 : b < 0
                      · have HR := hd (show bestTo (fun i => T.testBit i) s.C (x + 1) = x by rw [HB1.out, hbit, decide_eq_true hb0]; rfl)
                        clear hbit HB1
                        go_wp2
                        go_quiet (fail)
                        go_wp2
                        go_roundw
                        case rel => exact ⟨x + 1, by omega, by go_num, by rw [HR.out], _, rfl⟩
                        case measure => simp [intOf]; omega
                      · obtain ⟨bn, hbn⟩ := Int.eq_ofNat_of_zero_le (show 0 ≤ b by omega)
                        subst hbn
                        have hcb := HCS.out bn (by omega)
                        rw [hbit, decide_eq_false hb0, Int.toNat_natCast] at HB1
                        generalize s.C.getD bn 0 = z2 at *
                        generalize s.C.getD x 0 = z1 at *
                        have i1 : (0 : Int) ≤ (x : Int) := by omega
                        have i2 : (x : Int) < (m : Int) := by omega
                        have i3 : (0 : Int) ≤ (bn : Int) := by omega
                        have i4 : (bn : Int) < (m : Int) := by omega
                        by_cases hz : z1 < z2
                        · have HR := hd (show bestTo (fun i => T.testBit i) s.C (x + 1) = x by rw [HB1.out, decide_eq_true hz]; rfl)
                          clear hbit HB1
                          go_wp2
                          go_quiet (fail)
                          go_wp2
                          go_roundw
                          case rel => exact ⟨x + 1, by omega, by go_num, by rw [HR.out], _, rfl⟩
                          case measure => simp [intOf]; omega
                        · have HR := hd (show bestTo (fun i => T.testBit i) s.C (x + 1) = bn by rw [HB1.out, decide_eq_false hz]; rfl)
                          clear hbit HB1
                          go_wp2
                          go_quiet (fail)
                          go_wp2
                          go_roundw
                          case rel => exact ⟨x + 1, by omega, by go_num, by rw [HR.out], _, rfl⟩
                          case measure => simp [intOf]; omega
                  · have e : x = m := by omega
                    subst e
                    rw [HP.out]
                    obtain ⟨pn, hpn⟩ := Int.eq_ofNat_of_zero_le hpk
                    subst hpn
                    have hpm : pn < x := by omega
                    have hcell : (wo.drewN dr).cell? ⟨w.heap.size, pn, none⟩ = some (.int .i64 (s.C.getD pn 0)) := HCS.out pn hpm
                    have hfro : (wo.drewN dr).frozen? ⟨w.heap.size, pn, none⟩ = false := HC.out.frozenAt pn
                    obtain ⟨z1, z2⟩ := OK1.out.few pn
                    rw [Int.toNat_natCast] at HNN
                    generalize s.C.getD pn 0 = z at *
                    have HC' : (wo.drewN dr).ownsRow w.heap.size 2 1 (.slice (some ⟨w.heap.size, 0, none⟩) x x) x (s.C.map vi) := HC.out
                    have HO' : (wo.drewN dr).ownsRow w.heap.size 2 1 u9 k (s.out.map vi) := HO.out
                    have HB' : Below w.heap.size w (wo.drewN dr) := below_drewN HB.out dr
                    have Hs := hd (HC'.stored pn (vi (z + 1)))
                    have Hok := hd (own_kept (u := .slice (some ⟨w.heap.size, 0, none⟩) x x) HO' Hs.out.2 (dj_symm HD.out))
                    have HBB := hd HB'
                    have HO2 := hd HO'
                    clear HC' HO' HB'
                    go_wp2_with (at_builtin; go_must (refine wpList_app_int _ _ _ rfl _ _ rfl w.heap.size k _ _ rfl Hok.out rfl _ rfl (by simp) (by omega) (Nat.le_trans HBB.out.size (by simp)) ?_); intro v' w1 ho1 hg1 hap)
                    go_roundw
                    case rel =>
                      refine ⟨k + 1, ⟨s.C.set pn (z + 1), s.out ++ [(pn : Int)], (pn : Int)⟩, by omega, by go_num, HNN, rfl, ?_, ?_, hap _ (own_in Hs.out.1) HD.out, below_row hg1 (HBB.out.setCell (Nat.le_refl _) _) (own_row HO2.out (Nat.le_refl _))⟩
                      · have := own_kept Hs.out.1 hg1 HD.out
                        rw [List.map_set]
                        exact this
                      · rw [List.map_append]; exact ho1
                    case measure => simp [intOf]; omega
          · have e : k = n := by omega
            subst e
            have H2 := hd (show M m k sets = (s.out, true) by rw [H.out, hst.out])
            have hl := (OK.out k s hst.out).outl
            have Hl := hd hl
            clear hl
            go_wp2
            go_ret2
            rw [H2.out]
            exact ⟨_, rfl, by simpa [Hl.out] using ho, hB⟩
end Go.Proofs.Ytfeehfmiicleaaa.OncI
