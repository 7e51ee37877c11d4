/- Whatever people, days and sets are given, the program's OnCalls and the reference's return the same list and the same bool, leave the arguments alone and share no memory: the law returns true. No condition. -/
import Derived.Test.YtahhmpaaggeakaaRows
import Derived.Test.YtahhmpaaggeakaaNum
import Derived.Test.YtahhmpaaggeakaaMaxMin
import Derived.Test.YtahhmpaaggeakaaApp
import Derived.Test.YtahhmpaaggeakaaOnC
import Derived.Test.YtahhmpaaggeakaaBlockT
import Derived.Test.YtahhmpaaggeakaaSlice
import Derived.Test.YtahhmpaaggeakaaOpen
namespace Go.Proofs.Ytahhmpaaggeakaa.lFnExactOnCalls
open Go.ChangeShapes Go.WideShapes Go.ChangeAt Go.RowKit Go.Proofs.Ytahhmpaaggeakaa Plain
set_option linter.unusedVariables false
set_option linter.unusedSimpArgs false
attribute [local go_sem ↓] Go.wp_at_zero Go.wp_at_succ

/-- the numbers are right -/
def okB (p d : Int) (sets : List Int) : Bool := inR p 1 12 && (inR d 1 128 && manyIn sets d d 0 (2 ^ p.toNat - 1))
def M (p d : Int) (sets : List Int) : List Int × Bool := if okB p d sets then (match callsTo p.toNat sets sets.length with | none => ([], false) | some s => (s.out, true)) else ([], false)
theorem len_ok (p : Int) (_ : I64 p) (d : Int) (_ : I64 d) (sets : List Int) (_ : ∀ x ∈ sets, I64 x) (h : sets.length ≤ 1048576) : (M p d sets).1.length ≤ 1048576 := by
  unfold M
  split
  · cases e : callsTo p.toNat sets sets.length with
    | none => simp
    | some s => simp only; rw [(callsTo_ok sets _ e).outl]; omega
  · simp

set_option maxHeartbeats 4000000 in
set_option maxRecDepth 100000 in
theorem impl_any (w : World) (p : Int) (ip : I64 p) (d : Int) (id : I64 d) (v2 : Value) (sets : List Int) (i2 : ∀ x ∈ sets, I64 x) (b2 : sets.length ≤ 1048576) (s2 : Sl w 1 v2 sets.length (sets.map vi)) :
    Calls Try.prog 17 #[.int .i64 p, .int .i64 d, v2] w (OutL 2 1 (M p d sets).1.length ((M p d sets).1.map vi) (fun u => .tuple #[u, .bool (M p d sets).2]) w) := by
  have A2 := hd (fun w' few many lo hi h => areMany_any v2 sets few many lo hi w' (s2.below h))
  obtain ⟨As, cs, rfl, hcs, hs⟩ := s2
  cases h1 : inR p 1 12 with
  | false =>
    have H := hd (show M p d sets = ([], false) by rw [M, okB, h1]; rfl)
    go_enter Try.func17, Try.ntmps17
    go_wp2_with (go_at_call 63; refine (arePeople_any _ _).mono ?_; rintro e w' ⟨rfl, rfl⟩)
    go_ret2
    rw [H.out]
    exact ⟨_, rfl, World.ownsRow_nil _ _ _ _, Below.refl _ _⟩
  | true =>
    cases h2 : inR d 1 128 with
    | false =>
      have H := hd (show M p d sets = ([], false) by rw [M, okB, h1, h2]; rfl)
      go_enter Try.func17, Try.ntmps17
      go_wp2_with (first
        | (go_at_call 63; refine (arePeople_any _ _).mono ?_; rintro e w' ⟨rfl, rfl⟩)
        | (go_at_call 64; refine (within_any _ _ _ _).mono ?_; rintro e w' ⟨rfl, rfl⟩))
      go_ret2
      rw [H.out]
      exact ⟨_, rfl, World.ownsRow_nil _ _ _ _, Below.refl _ _⟩
    | true =>
      obtain ⟨p1, p2⟩ := inR_iff.1 h1
      obtain ⟨m, rfl⟩ := Int.eq_ofNat_of_zero_le (show 0 ≤ p by omega)
      obtain ⟨d1, d2⟩ := inR_iff.1 h2
      have hP1 : (0 : Int) < 2 ^ m := Int.pow_pos (by decide)
      have hP2 : (2 : Int) ^ m ≤ 4096 := by
        have : (2 : Nat) ^ m ≤ 2 ^ 12 := Nat.pow_le_pow_right (by omega) (by omega)
        have h3 : ((2 ^ m : Nat) : Int) ≤ ((2 ^ 12 : Nat) : Int) := by omega
        simpa using h3
      cases h3 : manyIn sets d d 0 (2 ^ m - 1) with
      | false =>
        have H := hd (show M m d sets = ([], false) by rw [M, okB, h1, h2, Int.toNat_natCast, h3]; rfl)
        go_enter Try.func17, Try.ntmps17
        go_wp2_with (first
          | (go_at_call 63; refine (arePeople_any _ _).mono ?_; rintro e w' ⟨rfl, rfl⟩)
          | (go_at_call 64; refine (within_any _ _ _ _).mono ?_; rintro e w' ⟨rfl, rfl⟩)
          | (go_at_call 65; refine (A2.out _ _ _ _ _ (Below.refl _ _)).mono ?_; rintro e w' ⟨rfl, rfl⟩))
        go_ret2
        rw [H.out]
        exact ⟨_, rfl, World.ownsRow_nil _ _ _ _, Below.refl _ _⟩
      | true =>
        have H := hd (show M m d sets = (match callsTo m sets sets.length with | none => ([], false) | some s => (s.out, true)) by rw [M, okB, h1, h2, Int.toNat_natCast, h3]; rfl)
        obtain ⟨f1, f2, f3⟩ := many_bd h3
        have OK := hd (fun k s e => callsTo_ok (m := m) sets k (s := s) e)
        have F := hd (fun i hi => all_getD f3 i hi)
        generalize hn : sets.length = n at *
        have Hn := hd hn
        obtain rfl : d = n := by omega
        clear hn f1 f2 f3 i2 ip id
        go_enter Try.func17, Try.ntmps17
        go_wp2_with (first
          | (go_at_call 63; refine (arePeople_any _ _).mono ?_; rintro e w' ⟨rfl, rfl⟩)
          | (go_at_call 64; refine (within_any _ _ _ _).mono ?_; rintro e w' ⟨rfl, rfl⟩)
          | (go_at_call 65; refine (A2.out _ _ _ _ _ (Below.refl _ _)).mono ?_; rintro e w' ⟨rfl, rfl⟩)
          | (at_make; go_must (refine wpList_make_int _ rfl _ rfl _ _ m rfl rfl (by omega) ?_); intro w1 ho2 hb1))
        clear A2 h1 h2 h3
        have hs1 := World.ownsRow_made (size := 1) w1 #[] 0 (Nat.le_refl _) (by unfold maxLen; omega) rfl (e := 2)
        go_loopw [9, 10, 39] (fun out ls ix wr => ∃ (k : Nat) (s : CallSt), k ≤ n ∧ ix = .int .i64 k ∧ Hid (callsTo m sets k = some s) ∧ ls = .int .i64 s.last ∧ wr.ownsRow w.heap.size 2 1 (.slice (some ⟨w.heap.size, 0, none⟩) m m) m (s.C.map vi) ∧ wr.ownsRow w.heap.size 2 1 out k (s.out.map vi) ∧ Dj (.slice (some ⟨w.heap.size, 0, none⟩) m m) out ∧ Below w.heap.size w wr) (fun _ _ ix _ => n - (intOf ix).toNat)
        case atStart =>
          refine ⟨0, _, by omega, rfl, hd rfl, rfl, ?_, own_mono hs1 hb1.size, ?_, below_tr ((Below.refl _ _).alloc (Nat.le_refl _) _) hb1⟩
          · simpa [vi] using own_below ho2 ((Below.refl _ _).alloc (Nat.le_refl _) _)
          · exact dj_new ho2 hs1
        case round =>
          obtain ⟨k, s, hk, rfl, hst, rfl, hC, ho, hdj, hB⟩ := hrel
          clear ho2 hb1 hs1
          by_cases hlt : k < n
          · obtain ⟨bb, off, rfl, hc⟩ := (hs.below hB).int hlt
            have ok := OK.out k s hst.out
            obtain ⟨q1, q2⟩ := F.out k hlt
            obtain ⟨q, hq⟩ := Int.eq_ofNat_of_zero_le q1
            rw [hq] at hc q2
            have hq64 : q < 2 ^ m := by
              have : ((2 ^ m : Nat) : Int) = 2 ^ m := by simp
              omega
            have h263 : (2 : Nat) ^ m < 2 ^ 63 := Nat.pow_lt_pow_right (by omega) (by omega)
            have ET : bits .andNot .i64 (2 ^ m - 1) (q : Int) = ((there m q : Nat) : Int) := by
              have e : (2 : Int) ^ m - 1 = ((2 ^ m - 1 : Nat) : Int) := by
                have : ((2 ^ m : Nat) : Int) = 2 ^ m := by simp
                omega
              rw [e]
              exact i64_andNot _ _ (by omega) (by omega)
            have htl := there_lt m q
            have PN := hd (fun h => pick_none (m := m) (set := q) (last := s.last) (C := s.C) h ok.lst.2)
            have PW := hd (fun h0 h => pick_whole (m := m) (set := q) (last := s.last) (C := s.C) h0 ok.lst.2 h)
            have PL := hd (fun h0 h1 h2 => pick_less (m := m) (set := q) (last := s.last) (C := s.C) h0 ok.lst.2 h1 h2)
            have HN : Hid (callsTo m sets (k + 1) = if pick q s.last s.C m < 0 then none
                else some ⟨s.C.set (pick q s.last s.C m).toNat (s.C.getD (pick q s.last s.C m).toNat 0 + 1), s.out ++ [pick q s.last s.C m], pick q s.last s.C m⟩) := by
              have := hst.out
              have e : (sets.getD k 0).toNat = q := by rw [hq]; rfl
              rw [Hid, callsTo, this]
              simp only [e]
            generalize there m q = t at *
            have hbd := pick_bd (set := q) (C := s.C) ok.lst.2
            generalize pick q s.last s.C m = pk at *
            obtain ⟨l1, l2⟩ := ok.lst
            have HC := hd hC; have HO := hd ho; have HD := hd hdj; have HB := hd hB; have OK1 := hd ok
            clear hC ho hdj hB hq64 ok
            by_cases ht0 : t = 0
            · subst ht0
              have hno := hd (show callsTo m sets n = none by
                refine callsTo_stop (d := k + 1) ?_ (by omega)
                rw [HN.out, if_pos (by have := PN.out rfl; omega)])
              have H2 := hd (show M m n sets = ([], false) by rw [H.out, hno.out])
              have e0 : bits .andNot .i64 (2 ^ m - 1) (q : Int) = 0 := ET
              clear ET
              go_wp2
              go_ret2
              rw [H2.out]
              exact ⟨_, rfl, World.ownsRow_nil _ _ _ _, HB.out⟩
            · have hne : ((t : Int) == 0) = false := by simpa using ht0
              have HX : ∃ T : Nat, T < 2 ^ 63 ∧ Hid (bestTo (fun i => T.testBit i) s.C m = pk) ∧ 0 ≤ pk ∧
                  ((decide (0 ≤ s.last) = false ∧ T = t) ∨
                   (∃ j : Nat, s.last = (j : Int) ∧ min j 64 = j ∧ (2 : Int) ^ j ≤ 4096 ∧ (0 : Int) < 2 ^ j ∧ ((t : Int) != 2 ^ j) = false ∧ T = t) ∨
                   (∃ j : Nat, s.last = (j : Int) ∧ min j 64 = j ∧ (2 : Int) ^ j ≤ 4096 ∧ (0 : Int) < 2 ^ j ∧ ((t : Int) != 2 ^ j) = true ∧ bits .andNot .i64 (t : Int) (2 ^ j) = (T : Int))) := by
                by_cases hl0 : s.last < 0
                · have HP := PW.out ht0 (.inl hl0)
                  exact ⟨t, by omega, hd HP.1, HP.2, .inl ⟨by simp; omega, rfl⟩⟩
                · obtain ⟨j, hj⟩ := Int.eq_ofNat_of_zero_le (show 0 ≤ s.last by omega)
                  have hJ1 : (0 : Int) < 2 ^ j := Int.pow_pos (by decide)
                  have hJ2 : (2 : Int) ^ j ≤ 4096 := by
                    have : (2 : Nat) ^ j ≤ 2 ^ 12 := Nat.pow_le_pow_right (by omega) (by omega)
                    have h3 : ((2 ^ j : Nat) : Int) ≤ ((2 ^ 12 : Nat) : Int) := by omega
                    simpa using h3
                  have e : (2 : Int) ^ j = ((2 ^ j : Nat) : Int) := by simp
                  have ej : s.last.toNat = j := by omega
                  by_cases hone : t = 2 ^ j
                  · have HP := PW.out ht0 (.inr ⟨by omega, by rw [ej]; exact hone⟩)
                    exact ⟨t, by omega, hd HP.1, HP.2, .inr (.inl ⟨j, hj, by omega, hJ2, hJ1, by simp [hone], rfl⟩)⟩
                  · have HP := PL.out ht0 (by omega) (by rw [ej]; exact hone)
                    rw [ej] at HP
                    exact ⟨mns t (2 ^ j), mns_lt (by omega), hd HP.1, HP.2, .inr (.inr ⟨j, hj, by omega, hJ2, hJ1, by rw [bne_iff_ne]; omega, by rw [e]; exact i64_andNot _ _ (by omega) (by omega)⟩)⟩
              obtain ⟨T, hT63, HP, hpk, hcs3⟩ := HX
              clear PN PW PL ht0
              obtain ⟨wo, rfl⟩ : ∃ wo : World, wo = wr := ⟨_, rfl⟩
              have CL := hd OK1.out.len
              have HCS := hd (fun x (hx : x < m) => show wo.cell? ⟨w.heap.size, x, none⟩ = some (.int .i64 (s.C.getD x 0)) from by
                rw [HC.out.cellAt x (by omega), List.getElem?_map, List.getD_eq_getElem?_getD, List.getElem?_eq_getElem (by rw [CL.out]; exact hx)]; rfl)
              have HNN := hd (HN.out.trans (if_neg (by omega)))
              clear HN
              rcases hcs3 with ⟨hl0, rfl⟩ | ⟨j, hj, j64, hJ2, hJ1, hb, rfl⟩ | ⟨j, hj, j64, hJ2, hJ1, hb, EM⟩
              all_goals
                try rw [hj]
                try rw [hj] at l1 l2
                go_wp2
                try clear hb
                try clear EM
                try clear hl0
                go_loopw [14, 63] (fun bv ix wr => ∃ x : Nat, x ≤ m ∧ ix = .int .i64 x ∧ bv = .int .i64 (bestTo (fun i => T.testBit i) s.C x) ∧ ∃ dr, wr = wo.drewN dr) (fun _ ix _ => m - (intOf ix).toNat)
                case atStart => exact ⟨0, by omega, rfl, rfl, 0, rfl⟩
                case round =>
                  obtain ⟨x, hx, rfl, rfl, dr, rfl⟩ := hrel
                  by_cases hxm : x < m
                  · have hb1 := bestTo_bd (fun i => T.testBit i) s.C x
                    have HB1 := hd (bestTo_succ (fun i => T.testBit i) s.C x)
                    have hcx := HCS.out x hxm
                    have E := i64_bit' T x hT63 (by omega)
                    have x64 : min x 64 = x := by omega
                    generalize bestTo (fun i => T.testBit i) s.C x = b at *
                    cases hbit : T.testBit x with
                    | false =>
                      have HR := hd (show bestTo (fun i => T.testBit i) s.C (x + 1) = b by rw [HB1.out, hbit]; rfl)
                      rw [hbit, if_neg (by simp)] at E
                      clear hbit HB1
                      go_wp2
                      go_quiet (fail)
                      go_wp2
                      go_roundw
                      case rel => exact ⟨x + 1, by omega, by go_num, by rw [HR.out], _, rfl⟩
                      case measure => simp [intOf]; omega
                    | true =>
                      rw [hbit, if_pos rfl] at E
                      by_cases hb0 : b < 0
                      · have HR := hd (show bestTo (fun i => T.testBit i) s.C (x + 1) = x by rw [HB1.out, hbit, decide_eq_true hb0]; rfl)
                        clear hbit HB1
                        go_wp2
                        go_quiet (fail)
                        go_wp2
                        go_roundw
                        case rel => exact ⟨x + 1, by omega, by go_num, by rw [HR.out], _, rfl⟩
                        case measure => simp [intOf]; omega
                      · obtain ⟨bn, hbn⟩ := Int.eq_ofNat_of_zero_le (show 0 ≤ b by omega)
                        subst hbn
                        have hcb := HCS.out bn (by omega)
                        rw [hbit, decide_eq_false hb0, Int.toNat_natCast] at HB1
                        generalize s.C.getD bn 0 = z2 at *
                        generalize s.C.getD x 0 = z1 at *
                        have i1 : (0 : Int) ≤ (x : Int) := by omega
                        have i2 : (x : Int) < (m : Int) := by omega
                        have i3 : (0 : Int) ≤ (bn : Int) := by omega
                        have i4 : (bn : Int) < (m : Int) := by omega
                        by_cases hz : z1 < z2
                        · have HR := hd (show bestTo (fun i => T.testBit i) s.C (x + 1) = x by rw [HB1.out, decide_eq_true hz]; rfl)
                          clear hbit HB1
                          go_wp2
                          go_quiet (fail)
                          go_wp2
                          go_roundw
                          case rel => exact ⟨x + 1, by omega, by go_num, by rw [HR.out], _, rfl⟩
                          case measure => simp [intOf]; omega
                        · have HR := hd (show bestTo (fun i => T.testBit i) s.C (x + 1) = bn by rw [HB1.out, decide_eq_false hz]; rfl)
                          clear hbit HB1
                          go_wp2
                          go_quiet (fail)
                          go_wp2
                          go_roundw
                          case rel => exact ⟨x + 1, by omega, by go_num, by rw [HR.out], _, rfl⟩
                          case measure => simp [intOf]; omega
                  · have e : x = m := by omega
                    subst e
                    rw [HP.out]
                    obtain ⟨pn, hpn⟩ := Int.eq_ofNat_of_zero_le hpk
                    subst hpn
                    have hpm : pn < x := by omega
                    have hcell : (wo.drewN dr).cell? ⟨w.heap.size, pn, none⟩ = some (.int .i64 (s.C.getD pn 0)) := HCS.out pn hpm
                    have hfro : (wo.drewN dr).frozen? ⟨w.heap.size, pn, none⟩ = false := HC.out.frozenAt pn
                    obtain ⟨z1, z2⟩ := OK1.out.few pn
                    rw [Int.toNat_natCast] at HNN
                    generalize s.C.getD pn 0 = z at *
                    have HC' : (wo.drewN dr).ownsRow w.heap.size 2 1 (.slice (some ⟨w.heap.size, 0, none⟩) x x) x (s.C.map vi) := HC.out
                    have HO' : (wo.drewN dr).ownsRow w.heap.size 2 1 u9 k (s.out.map vi) := HO.out
                    have HB' : Below w.heap.size w (wo.drewN dr) := below_drewN HB.out dr
                    have Hs := hd (HC'.stored pn (vi (z + 1)))
                    have Hok := hd (own_kept (u := .slice (some ⟨w.heap.size, 0, none⟩) x x) HO' Hs.out.2 (dj_symm HD.out))
                    have HBB := hd HB'
                    have HO2 := hd HO'
                    clear HC' HO' HB'
                    go_wp2_with (at_builtin; go_must (refine wpList_app_int _ _ _ rfl _ _ rfl w.heap.size k _ _ rfl Hok.out rfl _ rfl (by simp) (by omega) (Nat.le_trans HBB.out.size (by simp)) ?_); intro v' w1 ho1 hg1 hap)
                    go_roundw
                    case rel =>
                      refine ⟨k + 1, ⟨s.C.set pn (z + 1), s.out ++ [(pn : Int)], (pn : Int)⟩, by omega, by go_num, HNN, rfl, ?_, ?_, hap _ (own_in Hs.out.1) HD.out, below_row hg1 (HBB.out.setCell (Nat.le_refl _) _) (own_row HO2.out (Nat.le_refl _))⟩
                      · have := own_kept Hs.out.1 hg1 HD.out
                        rw [List.map_set]
                        exact this
                      · rw [List.map_append]; exact ho1
                    case measure => simp [intOf]; omega
          · have e : k = n := by omega
            subst e
            have H2 := hd (show M m k sets = (s.out, true) by rw [H.out, hst.out])
            have hl := (OK.out k s hst.out).outl
            have Hl := hd hl
            clear hl
            go_wp2
            go_ret2
            rw [H2.out]
            exact ⟨_, rfl, by simpa [Hl.out] using ho, hB⟩

theorem M_len_no {p d : Int} {sets : List Int} (h : inR p 1 12 = false ∨ inR d 1 128 = false ∨ ¬ (sets.length : Int) = d) : M p d sets = ([], false) := by
  have : okB p d sets = false := by
    rcases h with h | h | h
    · rw [okB, h]; rfl
    · rw [okB, h]; simp
    · rw [okB, manyIn]
      by_cases h1 : d ≤ (sets.length : Int)
      · rw [decide_eq_false (show ¬ (sets.length : Int) ≤ d by omega)]; simp
      · rw [decide_eq_false h1]; simp
  rw [M, this]; rfl
theorem M_day_no {m : Nat} {d : Int} {sets : List Int} {k : Nat} (hk : k < sets.length) (h : inR (sets.getD k 0) 0 (2 ^ m - 1) = false) : M m d sets = ([], false) := by
  have : okB m d sets = false := by
    rw [List.getD_eq_getElem?_getD, getD_of hk] at h
    rw [okB, manyIn, Int.toNat_natCast, all_false (p := (inR · 0 (2 ^ m - 1))) hk h]; simp
  rw [M, this]; rfl
theorem M_stop {m : Nat} {d : Int} {sets : List Int} {k : Nat} (hk : k ≤ sets.length) (h : callsTo m sets k = none) : M m d sets = ([], false) := by
  unfold M
  split
  · rw [Int.toNat_natCast, callsTo_stop h hk]
  · rfl
theorem M_end {m : Nat} {sets : List Int} {s : CallSt} (h1 : inR (m : Int) 1 12 = true) (h2 : inR (sets.length : Int) 1 128 = true) (h3 : (sets.take sets.length).all (inR · 0 (2 ^ m - 1)) = true) (h : callsTo m sets sets.length = some s) : M m sets.length sets = (s.out, true) := by
  have : okB m sets.length sets = true := by
    rw [List.take_length] at h3
    rw [okB, h1, h2, manyIn, Int.toNat_natCast, h3]; simp
  rw [M, this, if_pos rfl, Int.toNat_natCast, h]
/-- the last one was met among the first x, and he is there -/
def againB (q : Nat) (last : Int) (x : Nat) : Bool := decide (0 ≤ last ∧ last < x ∧ q.testBit last.toNat = false)
theorem againB_zero (q : Nat) (last : Int) : againB q last 0 = false := by rw [againB, decide_eq_false]; omega
theorem againB_neg {q : Nat} {last : Int} {x : Nat} (h : last < 0) : againB q last x = false := by rw [againB, decide_eq_false]; omega
theorem againB_succ (q : Nat) (last : Int) (x : Nat) : againB q last (x + 1) = (againB q last x || (decide ((x : Int) = last) && !q.testBit x)) := by
  rw [Bool.eq_iff_iff]
  simp only [againB, Bool.or_eq_true, Bool.and_eq_true, decide_eq_true_eq, Bool.not_eq_true']
  constructor
  · rintro ⟨h1, h2, h3⟩
    by_cases e : (x : Int) = last
    · refine .inr ⟨e, ?_⟩
      rw [show x = last.toNat by omega]; exact h3
    · exact .inl ⟨h1, by omega, h3⟩
  · rintro (⟨h1, h2, h3⟩ | ⟨h1, h2⟩)
    · exact ⟨h1, by omega, h3⟩
    · refine ⟨by omega, by omega, ?_⟩
      rw [show last.toNat = x by omega]; exact h2

set_option maxHeartbeats 4000000 in
set_option maxRecDepth 100000 in
theorem spec_any (w : World) (p : Int) (ip : I64 p) (d : Int) (id : I64 d) (v2 : Value) (sets : List Int) (i2 : ∀ x ∈ sets, I64 x) (b2 : sets.length ≤ 1048576) (s2 : Sl w 1 v2 sets.length (sets.map vi)) :
    Calls Try.prog 15 #[.int .i64 p, .int .i64 d, v2] w (OutL 2 1 (M p d sets).1.length ((M p d sets).1.map vi) (fun u => .tuple #[u, .bool (M p d sets).2]) w) := by
  obtain ⟨As, cs, rfl, hcs, hs⟩ := s2
  cases h1 : inR p 1 12 with
  | false =>
    have H := hd (M_len_no (d := d) (sets := sets) (.inl h1))
    go_enter Try.func15, Try.ntmps15
    go_wp2_with (go_at_call 62; refine (l00In_any _ _ _ _).mono ?_; rintro e w' ⟨rfl, rfl⟩)
    go_ret2
    rw [H.out]
    exact ⟨_, rfl, World.ownsRow_nil _ _ _ _, Below.refl _ _⟩
  | true =>
    cases h2 : inR d 1 128 with
    | false =>
      have H := hd (M_len_no (p := p) (sets := sets) (.inr (.inl h2)))
      go_enter Try.func15, Try.ntmps15
      go_wp2_with (go_at_call 62; refine (l00In_any _ _ _ _).mono ?_; rintro e w' ⟨rfl, rfl⟩)
      go_ret2
      rw [H.out]
      exact ⟨_, rfl, World.ownsRow_nil _ _ _ _, Below.refl _ _⟩
    | true =>
      obtain ⟨p1, p2⟩ := inR_iff.1 h1
      obtain ⟨m, rfl⟩ := Int.eq_ofNat_of_zero_le (show 0 ≤ p by omega)
      obtain ⟨d1, d2⟩ := inR_iff.1 h2
      by_cases h3 : (sets.length : Int) = d
      rotate_left
      · have H := hd (M_len_no (p := m) (d := d) (sets := sets) (.inr (.inr h3)))
        have hb : ((sets.length : Int) != d) = true := by simpa using h3
        have hm := hs.2.1
        unfold maxLen at hm
        clear h3
        go_enter Try.func15, Try.ntmps15
        go_wp2_with (go_at_call 62; refine (l00In_any _ _ _ _).mono ?_; rintro e w' ⟨rfl, rfl⟩)
        go_ret2
        rw [H.out]
        exact ⟨_, rfl, World.ownsRow_nil _ _ _ _, Below.refl _ _⟩
      · subst h3
        have hP1 : (0 : Int) < 2 ^ m := Int.pow_pos (by decide)
        have hP2 : (2 : Int) ^ m ≤ 4096 := by
          have : (2 : Nat) ^ m ≤ 2 ^ 12 := Nat.pow_le_pow_right (by omega) (by omega)
          have h3 : ((2 ^ m : Nat) : Int) ≤ ((2 ^ 12 : Nat) : Int) := by omega
          simpa using h3
        have m64 : min m 64 = m := by omega
        have HE := hd (fun s h3 h => M_end (m := m) (sets := sets) (s := s) h1 h2 h3 h)
        have HNO := hd (fun k hk h => M_day_no (m := m) (d := sets.length) (sets := sets) (k := k) hk h)
        have HST0 := hd (fun k hk h => M_stop (m := m) (d := sets.length) (sets := sets) (k := k) hk h)
        have OK := hd (fun k s e => callsTo_ok (m := m) sets k (s := s) e)
        generalize hn : sets.length = n at *
        have Hn := hd hn
        clear hn i2 ip id
        go_enter Try.func15, Try.ntmps15
        go_wp2_with (first
          | (go_at_call 62; refine (l00In_any _ _ _ _).mono ?_; rintro e w' ⟨rfl, rfl⟩)
          | (at_make; go_must (refine wpList_make_int _ rfl _ rfl _ _ m rfl rfl (by omega) ?_); intro w1 ho2 hb1))
        clear h1 h2
        have hs1 := World.ownsRow_made (size := 1) w1 #[] 0 (Nat.le_refl _) (by unfold maxLen; omega) rfl (e := 2)
        go_loopw [9, 10] (fun out ix wr => ∃ (k : Nat) (s : CallSt), k ≤ n ∧ ix = .int .i64 k ∧ Hid ((sets.take k).all (inR · 0 (2 ^ m - 1)) = true) ∧ Hid (callsTo m sets k = some s) ∧ wr.ownsRow w.heap.size 2 1 (.slice (some ⟨w.heap.size, 0, none⟩) m m) m (s.C.map vi) ∧ wr.ownsRow w.heap.size 2 1 out k (s.out.map vi) ∧ Dj (.slice (some ⟨w.heap.size, 0, none⟩) m m) out ∧ Below w.heap.size w wr) (fun _ ix _ => n - (intOf ix).toNat)
        case atStart =>
          refine ⟨0, _, by omega, rfl, by simp [Hid], hd rfl, ?_, own_mono hs1 hb1.size, ?_, below_tr ((Below.refl _ _).alloc (Nat.le_refl _) _) hb1⟩
          · simpa [vi] using own_below ho2 ((Below.refl _ _).alloc (Nat.le_refl _) _)
          · exact dj_new ho2 hs1
        case round =>
          obtain ⟨k, s, hk, rfl, hval, hst, hC, ho, hdj, hB⟩ := hrel
          clear ho2 hb1 hs1
          obtain ⟨wo, rfl⟩ : ∃ wo : World, wo = wr := ⟨_, rfl⟩
          by_cases hlt : k < n
          · have hkl : k < sets.length := by have := Hn.out; omega
            have ok := OK.out k s hst.out
            obtain ⟨l1, l2⟩ := ok.lst
            have lneg := ok.neg
            have HSTOP := hd (fun h => HST0.out (k + 1) (by omega) h)
            have HSTOP2 := True.intro
            by_cases hk0 : k = 0
            · subst hk0
              rw [show ((0 : Nat) : Int) = 0 from rfl]
              obtain ⟨bb, off, rfl, hc⟩ := (hs.below hB).int hlt
              rw [Nat.add_zero] at hc
              have hn0 : (0 : Int) < (n : Int) := by omega
              have hl0 : s.last < 0 := by omega
              clear lneg
              cases hin : inR (sets.getD 0 0) 0 (2 ^ m - 1) with
              | false =>
                have H := hd (HNO.out 0 hlt hin)
                have HB := hd hB
                clear hs ho hC hB hkl
                generalize sets.getD 0 0 = q at *
                go_wp2_with (go_at_call 62; refine (l00In_any _ _ _ _).mono ?_; rintro e w' ⟨rfl, rfl⟩)
                go_ret2
                rw [H.out]
                exact ⟨_, rfl, World.ownsRow_nil _ _ _ _, HB.out⟩
              | true =>
              have hin' := hin
              rw [List.getD_eq_getElem?_getD, getD_of hkl] at hin'
              have Hval := hd (all_take_succ (p := (inR · 0 (2 ^ m - 1))) hval.out hkl hin')
              obtain ⟨q1, q2⟩ := inR_iff.1 hin
              obtain ⟨q, hq⟩ := Int.eq_ofNat_of_zero_le q1
              rw [hq] at hc q2 hin
              have hq63 : q < 2 ^ 63 := by
                have : (2 : Nat) ^ 63 = 9223372036854775808 := by decide
                omega
              have HN : Hid (callsTo m sets (0 + 1) = if pick q s.last s.C m < 0 then none
                  else some ⟨s.C.set (pick q s.last s.C m).toNat (s.C.getD (pick q s.last s.C m).toNat 0 + 1), s.out ++ [pick q s.last s.C m], pick q s.last s.C m⟩) := by
                have := hst.out
                have e : (sets.getD 0 0).toNat = q := by rw [hq]; rfl
                rw [Hid, callsTo, this]
                simp only [e]
              have hbd := pick_bd (set := q) (C := s.C) l2
              have HPK : Hid (pick q s.last s.C m = pick q s.last s.C m) := hd rfl
              obtain ⟨pk, hpk0⟩ : ∃ pk, pk = pick q s.last s.C m := ⟨_, rfl⟩
              rw [← hpk0] at HN hbd
              have HPK := hd hpk0
              clear hpk0
              have HC := hd hC; have HO := hd ho; have HD := hd hdj; have HB := hd hB; have OK1 := hd ok
              have CL := hd ok.len
              have HCS := hd (fun x (hx : x < m) => show wo.cell? ⟨w.heap.size, x, none⟩ = some (.int .i64 (s.C.getD x 0)) from by
                rw [HC.out.cellAt x (by omega), List.getElem?_map, List.getD_eq_getElem?_getD, List.getElem?_eq_getElem (by rw [CL.out]; exact hx)]; rfl)
              clear hC ho hdj hB ok hkl hin' hval hq
              go_wp2_with (go_at_call 62; refine (l00In_any _ _ _ _).mono ?_; rintro e w' ⟨rfl, rfl⟩)
              go_loopw [11, 12, 13] (fun bv ag ix wr => ∃ x : Nat, x ≤ m ∧ ix = .int .i64 x ∧ bv = .int .i64 (bestTo (oth q s.last) s.C x) ∧ ag = .bool (againB q s.last x) ∧ ∃ dr, wr = wo.drewN dr) (fun _ _ ix _ => m - (intOf ix).toNat)
              case atStart => exact ⟨0, by omega, rfl, rfl, by rw [againB_zero], 0, rfl⟩
              case round =>
                obtain ⟨x, hx, rfl, rfl, rfl, dr, rfl⟩ := hrel
                clear hin
                by_cases hxm : x < m
                · have hb1 := bestTo_bd (oth q s.last) s.C x
                  have HB1 := hd (bestTo_succ (oth q s.last) s.C x)
                  have HA1 := hd (againB_succ q s.last x)
                  have hcx := HCS.out x hxm
                  have E := i64_bit' q x hq63 (by omega)
                  have x64 : min x 64 = x := by omega
                  generalize bestTo (oth q s.last) s.C x = b at *
                  generalize againB q s.last x = ag at *
                  cases hbit : q.testBit x with
                  | true =>
                    have HR := hd (show bestTo (oth q s.last) s.C (x + 1) = b by rw [HB1.out, oth, hbit]; rfl)
                    have HG := hd (show againB q s.last (x + 1) = ag by rw [HA1.out, hbit]; simp)
                    rw [hbit, if_pos rfl] at E
                    clear hbit HB1 HA1
                    go_wp2
                    go_roundw
                    case rel => exact ⟨x + 1, by omega, by go_num, by rw [HR.out], by rw [HG.out], _, rfl⟩
                    case measure => simp [intOf]; omega
                  | false =>
                    rw [hbit, if_neg (by simp)] at E
                    have hxl : ¬ (x : Int) = s.last := by omega
                    have HG := hd (show againB q s.last (x + 1) = ag by rw [HA1.out, decide_eq_false hxl]; simp)
                    · skip
                      by_cases hb0 : b < 0
                      · have HR := hd (show bestTo (oth q s.last) s.C (x + 1) = x by rw [HB1.out, oth, hbit, decide_eq_false hxl, decide_eq_true hb0]; rfl)
                        clear hbit HB1 HA1
                        go_wp2
                        go_quiet (fail)
                        go_wp2
                        go_roundw
                        case rel => exact ⟨x + 1, by omega, by go_num, by rw [HR.out], by rw [HG.out], _, rfl⟩
                        case measure => simp [intOf]; omega
                      · obtain ⟨bn, hbn⟩ := Int.eq_ofNat_of_zero_le (show 0 ≤ b by omega)
                        subst hbn
                        have hcb := HCS.out bn (by omega)
                        rw [oth, hbit, decide_eq_false hxl, decide_eq_false hb0, Int.toNat_natCast] at HB1
                        generalize s.C.getD bn 0 = z2 at *
                        generalize s.C.getD x 0 = z1 at *
                        have i1 : (0 : Int) ≤ (x : Int) := by omega
                        have i2 : (x : Int) < (m : Int) := by omega
                        have i3 : (0 : Int) ≤ (bn : Int) := by omega
                        have i4 : (bn : Int) < (m : Int) := by omega
                        by_cases hz : z1 < z2
                        · have HR := hd (show bestTo (oth q s.last) s.C (x + 1) = x by rw [HB1.out, decide_eq_true hz]; rfl)
                          clear hbit HB1 HA1
                          go_wp2
                          go_quiet (fail)
                          go_wp2
                          go_roundw
                          case rel => exact ⟨x + 1, by omega, by go_num, by rw [HR.out], by rw [HG.out], _, rfl⟩
                          case measure => simp [intOf]; omega
                        · have HR := hd (show bestTo (oth q s.last) s.C (x + 1) = bn by rw [HB1.out, decide_eq_false hz]; rfl)
                          clear hbit HB1 HA1
                          go_wp2
                          go_quiet (fail)
                          go_wp2
                          go_roundw
                          case rel => exact ⟨x + 1, by omega, by go_num, by rw [HR.out], by rw [HG.out], _, rfl⟩
                          case measure => simp [intOf]; omega
                · have e : x = m := by omega
                  subst e
                  rw [againB_neg (by omega)]
                  have hpe : pk = bestTo (oth q s.last) s.C x := by rw [HPK.out, pick, if_neg (by omega)]
                  rw [← hpe]
                  have HPE := hd hpe
                  clear hpe
                  by_cases hpk : pk < 0
                  · clear HSTOP2
                    have hno := hd (HSTOP.out (by rw [HN.out, if_pos (by omega)]))
                    clear HN
                    go_wp2
                    go_ret2
                    rw [hno.out]
                    exact ⟨_, rfl, World.ownsRow_nil _ _ _ _, below_drewN HB.out _⟩
                  have hpk : 0 ≤ pk := by omega
                  have HNN := hd (HN.out.trans (if_neg (by omega)))
                  clear HN
                  obtain ⟨pn, hpn⟩ := Int.eq_ofNat_of_zero_le hpk
                  subst hpn
                  have hpm : pn < x := by omega
                  have hcell : (wo.drewN dr).cell? ⟨w.heap.size, pn, none⟩ = some (.int .i64 (s.C.getD pn 0)) := HCS.out pn hpm
                  have hfro : (wo.drewN dr).frozen? ⟨w.heap.size, pn, none⟩ = false := HC.out.frozenAt pn
                  obtain ⟨z1, z2⟩ := OK1.out.few pn
                  rw [Int.toNat_natCast] at HNN
                  generalize s.C.getD pn 0 = z at *
                  have HC' : (wo.drewN dr).ownsRow w.heap.size 2 1 (.slice (some ⟨w.heap.size, 0, none⟩) x x) x (s.C.map vi) := HC.out
                  have HO' : (wo.drewN dr).ownsRow w.heap.size 2 1 u9 0 (s.out.map vi) := HO.out
                  have HB' : Below w.heap.size w (wo.drewN dr) := below_drewN HB.out dr
                  have Hs := hd (HC'.stored pn (vi (z + 1)))
                  have Hok := hd (own_kept (u := .slice (some ⟨w.heap.size, 0, none⟩) x x) HO' Hs.out.2 (dj_symm HD.out))
                  have HBB := hd HB'
                  have HO2 := hd HO'
                  clear HC' HO' HB'
                  go_wp2_with (at_builtin; go_must (refine wpList_app_int _ _ _ rfl _ _ rfl w.heap.size 0 _ _ rfl Hok.out rfl _ rfl (by simp) (by omega) (Nat.le_trans HBB.out.size (by simp)) ?_); intro v' w1 ho1 hg1 hap)
                  go_roundw
                  case rel =>
                    refine ⟨0 + 1, ⟨s.C.set pn (z + 1), s.out ++ [(pn : Int)], (pn : Int)⟩, by omega, by go_num, Hval, HNN, ?_, ?_, hap _ (own_in Hs.out.1) HD.out, below_row hg1 (HBB.out.setCell (Nat.le_refl _) _) (own_row HO2.out (Nat.le_refl _))⟩
                    · have := own_kept Hs.out.1 hg1 HD.out
                      rw [List.map_set]
                      exact this
                    · rw [List.map_append]; exact ho1
                  case measure => simp [intOf]; omega
            · obtain ⟨bb, off, rfl, hc⟩ := (hs.below hB).int hlt
              obtain ⟨j, hj⟩ := Int.eq_ofNat_of_zero_le (show 0 ≤ s.last by omega)
              have htail := ok.tail (by omega)
              obtain ⟨A9, c9, rfl, hc9, hr9, _⟩ := own_rd ho (by unfold maxLen; omega)
              obtain ⟨b9, o9, rfl, hcl⟩ := hr9.int (k := k - 1) (by omega)
              have e9 : s.out.getD (k - 1) 0 = (j : Int) := by rw [List.getD_eq_getElem?_getD, htail, hj]; rfl
              rw [e9] at hcl
              have k1 : 0 < k := by omega
              have k2 : ((k : Int) - 1).toNat = k - 1 := by omega
              have k3 : 1 ≤ (k : Int) := by omega
              have k4 : 0 ≤ (k : Int) - 1 := by omega
              have k5 : (k : Int) - 1 < (k : Int) := by omega
              clear lneg htail hr9 e9 hk0
              cases hin : inR (sets.getD k 0) 0 (2 ^ m - 1) with
              | false =>
                have H := hd (HNO.out k hlt hin)
                have HB := hd hB
                clear hs ho hC hB hkl
                generalize sets.getD k 0 = q at *
                go_wp2_with (go_at_call 62; refine (l00In_any _ _ _ _).mono ?_; rintro e w' ⟨rfl, rfl⟩)
                go_ret2
                rw [H.out]
                exact ⟨_, rfl, World.ownsRow_nil _ _ _ _, HB.out⟩
              | true =>
              have hin' := hin
              rw [List.getD_eq_getElem?_getD, getD_of hkl] at hin'
              have Hval := hd (all_take_succ (p := (inR · 0 (2 ^ m - 1))) hval.out hkl hin')
              obtain ⟨q1, q2⟩ := inR_iff.1 hin
              obtain ⟨q, hq⟩ := Int.eq_ofNat_of_zero_le q1
              rw [hq] at hc q2 hin
              have hq63 : q < 2 ^ 63 := by
                have : (2 : Nat) ^ 63 = 9223372036854775808 := by decide
                omega
              have HN : Hid (callsTo m sets (k + 1) = if pick q s.last s.C m < 0 then none
                  else some ⟨s.C.set (pick q s.last s.C m).toNat (s.C.getD (pick q s.last s.C m).toNat 0 + 1), s.out ++ [pick q s.last s.C m], pick q s.last s.C m⟩) := by
                have := hst.out
                have e : (sets.getD k 0).toNat = q := by rw [hq]; rfl
                rw [Hid, callsTo, this]
                simp only [e]
              have hbd := pick_bd (set := q) (C := s.C) l2
              have HPK : Hid (pick q s.last s.C m = pick q s.last s.C m) := hd rfl
              obtain ⟨pk, hpk0⟩ : ∃ pk, pk = pick q s.last s.C m := ⟨_, rfl⟩
              rw [← hpk0] at HN hbd
              have HPK := hd hpk0
              clear hpk0
              have HC := hd hC; have HO := hd ho; have HD := hd hdj; have HB := hd hB; have OK1 := hd ok
              have CL := hd ok.len
              have HCS := hd (fun x (hx : x < m) => show wo.cell? ⟨w.heap.size, x, none⟩ = some (.int .i64 (s.C.getD x 0)) from by
                rw [HC.out.cellAt x (by omega), List.getElem?_map, List.getD_eq_getElem?_getD, List.getElem?_eq_getElem (by rw [CL.out]; exact hx)]; rfl)
              clear hC ho hdj hB ok hkl hin' hval hq
              go_wp2_with (go_at_call 62; refine (l00In_any _ _ _ _).mono ?_; rintro e w' ⟨rfl, rfl⟩)
              go_loopw [11, 12, 13] (fun bv ag ix wr => ∃ x : Nat, x ≤ m ∧ ix = .int .i64 x ∧ bv = .int .i64 (bestTo (oth q s.last) s.C x) ∧ ag = .bool (againB q s.last x) ∧ ∃ dr, wr = wo.drewN dr) (fun _ _ ix _ => m - (intOf ix).toNat)
              case atStart => exact ⟨0, by omega, rfl, rfl, by rw [againB_zero], 0, rfl⟩
              case round =>
                obtain ⟨x, hx, rfl, rfl, rfl, dr, rfl⟩ := hrel
                clear hin
                by_cases hxm : x < m
                · have hb1 := bestTo_bd (oth q s.last) s.C x
                  have HB1 := hd (bestTo_succ (oth q s.last) s.C x)
                  have HA1 := hd (againB_succ q s.last x)
                  have hcx := HCS.out x hxm
                  have E := i64_bit' q x hq63 (by omega)
                  have x64 : min x 64 = x := by omega
                  generalize bestTo (oth q s.last) s.C x = b at *
                  generalize againB q s.last x = ag at *
                  cases hbit : q.testBit x with
                  | true =>
                    have HR := hd (show bestTo (oth q s.last) s.C (x + 1) = b by rw [HB1.out, oth, hbit]; rfl)
                    have HG := hd (show againB q s.last (x + 1) = ag by rw [HA1.out, hbit]; simp)
                    rw [hbit, if_pos rfl] at E
                    clear hbit HB1 HA1
                    go_wp2
                    go_roundw
                    case rel => exact ⟨x + 1, by omega, by go_num, by rw [HR.out], by rw [HG.out], _, rfl⟩
                    case measure => simp [intOf]; omega
                  | false =>
                    rw [hbit, if_neg (by simp)] at E
                    by_cases hxl : (x : Int) = s.last
                    · have HR := hd (show bestTo (oth q s.last) s.C (x + 1) = b by rw [HB1.out, oth, hbit, decide_eq_true hxl]; rfl)
                      have HG := hd (show againB q s.last (x + 1) = true by rw [HA1.out, decide_eq_true hxl, hbit]; simp)
                      have hjx : j = x := by omega
                      subst hjx
                      clear hbit HB1 HA1 hxl
                      go_wp2
                      go_roundw
                      case rel => exact ⟨j + 1, by omega, by go_num, by rw [HR.out], by rw [HG.out], _, rfl⟩
                      case measure => simp [intOf]; omega
                    · have HG := hd (show againB q s.last (x + 1) = ag by rw [HA1.out, decide_eq_false hxl]; simp)
                      have hjx : ((j : Int) == (x : Int)) = false := by rw [beq_eq_false_iff_ne]; omega
                      by_cases hb0 : b < 0
                      · have HR := hd (show bestTo (oth q s.last) s.C (x + 1) = x by rw [HB1.out, oth, hbit, decide_eq_false hxl, decide_eq_true hb0]; rfl)
                        clear hbit HB1 HA1
                        go_wp2
                        go_quiet (fail)
                        go_wp2
                        go_roundw
                        case rel => exact ⟨x + 1, by omega, by go_num, by rw [HR.out], by rw [HG.out], _, rfl⟩
                        case measure => simp [intOf]; omega
                      · obtain ⟨bn, hbn⟩ := Int.eq_ofNat_of_zero_le (show 0 ≤ b by omega)
                        subst hbn
                        have hcb := HCS.out bn (by omega)
                        rw [oth, hbit, decide_eq_false hxl, decide_eq_false hb0, Int.toNat_natCast] at HB1
                        generalize s.C.getD bn 0 = z2 at *
                        generalize s.C.getD x 0 = z1 at *
                        have i1 : (0 : Int) ≤ (x : Int) := by omega
                        have i2 : (x : Int) < (m : Int) := by omega
                        have i3 : (0 : Int) ≤ (bn : Int) := by omega
                        have i4 : (bn : Int) < (m : Int) := by omega
                        by_cases hz : z1 < z2
                        · have HR := hd (show bestTo (oth q s.last) s.C (x + 1) = x by rw [HB1.out, decide_eq_true hz]; rfl)
                          clear hbit HB1 HA1
                          go_wp2
                          go_quiet (fail)
                          go_wp2
                          go_roundw
                          case rel => exact ⟨x + 1, by omega, by go_num, by rw [HR.out], by rw [HG.out], _, rfl⟩
                          case measure => simp [intOf]; omega
                        · have HR := hd (show bestTo (oth q s.last) s.C (x + 1) = bn by rw [HB1.out, decide_eq_false hz]; rfl)
                          clear hbit HB1 HA1
                          go_wp2
                          go_quiet (fail)
                          go_wp2
                          go_roundw
                          case rel => exact ⟨x + 1, by omega, by go_num, by rw [HR.out], by rw [HG.out], _, rfl⟩
                          case measure => simp [intOf]; omega
                · have e : x = m := by omega
                  subst e
                  have HPE := HPK.out
                  rw [pick] at HPE
                  have hlt0 : 0 ≤ s.last ∧ s.last < x := by omega
                  by_cases hb0 : bestTo (oth q s.last) s.C x < 0
                  · cases hag : againB q s.last x with
                    | false =>
                      have hpe : pk = bestTo (oth q s.last) s.C x := by rw [HPE, if_neg (by intro h; rw [againB, decide_eq_true (⟨h.2.1, hlt0.2, h.2.2⟩ : _ ∧ _ ∧ _)] at hag; cases hag)]
                      rw [← hpe] at hb0 ⊢
                      clear hpe HPE hag
                      have hno := hd (HSTOP.out (by rw [HN.out, if_pos (by omega)]))
                      clear HN
                      go_wp2
                      go_ret2
                      rw [hno.out]
                      exact ⟨_, rfl, World.ownsRow_nil _ _ _ _, below_drewN HB.out _⟩
                    | true =>
                      have hpe : pk = s.last := by
                        rw [againB, decide_eq_true_eq] at hag
                        rw [HPE, if_pos ⟨hb0, hag.1, hag.2.2⟩]
                      have hpk : 0 ≤ pk := by omega
                      have hpj : pk = (j : Int) := by omega
                      have HNN := hd (HN.out.trans (if_neg (by omega)))
                      generalize bestTo (oth q s.last) s.C x = b at *
                      clear HN HPE hpe hag
                      rw [hpj] at HNN hpk hbd
                      clear hpj
                      have hjj : j < x := by omega
                      obtain ⟨pn, hpn⟩ : ∃ pn : Nat, pn = j := ⟨j, rfl⟩
                      subst hpn
                      have hpm : pn < x := by omega
                      have hcell : (wo.drewN dr).cell? ⟨w.heap.size, pn, none⟩ = some (.int .i64 (s.C.getD pn 0)) := HCS.out pn hpm
                      have hfro : (wo.drewN dr).frozen? ⟨w.heap.size, pn, none⟩ = false := HC.out.frozenAt pn
                      obtain ⟨z1, z2⟩ := OK1.out.few pn
                      rw [Int.toNat_natCast] at HNN
                      generalize s.C.getD pn 0 = z at *
                      have HC' : (wo.drewN dr).ownsRow w.heap.size 2 1 (.slice (some ⟨w.heap.size, 0, none⟩) x x) x (s.C.map vi) := HC.out
                      have HO' : (wo.drewN dr).ownsRow w.heap.size 2 1 (.slice (some ⟨b9, o9, none⟩) k c9) k (s.out.map vi) := HO.out
                      have HB' : Below w.heap.size w (wo.drewN dr) := below_drewN HB.out dr
                      have Hs := hd (HC'.stored pn (vi (z + 1)))
                      have Hok := hd (own_kept (u := .slice (some ⟨w.heap.size, 0, none⟩) x x) HO' Hs.out.2 (dj_symm HD.out))
                      have HBB := hd HB'
                      have HO2 := hd HO'
                      clear HC' HO' HB'
                      go_wp2_with (at_builtin; go_must (refine wpList_app_int _ _ _ rfl _ _ rfl w.heap.size k _ _ rfl Hok.out rfl _ rfl (by simp) (by omega) (Nat.le_trans HBB.out.size (by simp)) ?_); intro v' w1 ho1 hg1 hap)
                      go_roundw
                      case rel =>
                        refine ⟨k + 1, ⟨s.C.set pn (z + 1), s.out ++ [(pn : Int)], (pn : Int)⟩, by omega, by go_num, Hval, HNN, ?_, ?_, hap _ (own_in Hs.out.1) HD.out, below_row hg1 (HBB.out.setCell (Nat.le_refl _) _) (own_row HO2.out (Nat.le_refl _))⟩
                        · have := own_kept Hs.out.1 hg1 HD.out
                          rw [List.map_set]
                          exact this
                        · rw [List.map_append]; exact ho1
                      case measure => simp [intOf]; omega
                  · have hpe : pk = bestTo (oth q s.last) s.C x := by rw [HPE, if_neg (by omega)]
                    have hpk : 0 ≤ pk := by omega
                    have HNN := hd (HN.out.trans (if_neg (by omega)))
                    rw [← hpe]
                    rw [← hpe] at hb0
                    clear HN HPE hpe
                    generalize againB q s.last x = ag at *
                    obtain ⟨pn, hpn⟩ := Int.eq_ofNat_of_zero_le hpk
                    subst hpn
                    have hpm : pn < x := by omega
                    have hcell : (wo.drewN dr).cell? ⟨w.heap.size, pn, none⟩ = some (.int .i64 (s.C.getD pn 0)) := HCS.out pn hpm
                    have hfro : (wo.drewN dr).frozen? ⟨w.heap.size, pn, none⟩ = false := HC.out.frozenAt pn
                    obtain ⟨z1, z2⟩ := OK1.out.few pn
                    rw [Int.toNat_natCast] at HNN
                    generalize s.C.getD pn 0 = z at *
                    have HC' : (wo.drewN dr).ownsRow w.heap.size 2 1 (.slice (some ⟨w.heap.size, 0, none⟩) x x) x (s.C.map vi) := HC.out
                    have HO' : (wo.drewN dr).ownsRow w.heap.size 2 1 (.slice (some ⟨b9, o9, none⟩) k c9) k (s.out.map vi) := HO.out
                    have HB' : Below w.heap.size w (wo.drewN dr) := below_drewN HB.out dr
                    have Hs := hd (HC'.stored pn (vi (z + 1)))
                    have Hok := hd (own_kept (u := .slice (some ⟨w.heap.size, 0, none⟩) x x) HO' Hs.out.2 (dj_symm HD.out))
                    have HBB := hd HB'
                    have HO2 := hd HO'
                    clear HC' HO' HB'
                    go_wp2_with (at_builtin; go_must (refine wpList_app_int _ _ _ rfl _ _ rfl w.heap.size k _ _ rfl Hok.out rfl _ rfl (by simp) (by omega) (Nat.le_trans HBB.out.size (by simp)) ?_); intro v' w1 ho1 hg1 hap)
                    go_roundw
                    case rel =>
                      refine ⟨k + 1, ⟨s.C.set pn (z + 1), s.out ++ [(pn : Int)], (pn : Int)⟩, by omega, by go_num, Hval, HNN, ?_, ?_, hap _ (own_in Hs.out.1) HD.out, below_row hg1 (HBB.out.setCell (Nat.le_refl _) _) (own_row HO2.out (Nat.le_refl _))⟩
                      · have := own_kept Hs.out.1 hg1 HD.out
                        rw [List.map_set]
                        exact this
                      · rw [List.map_append]; exact ho1
                    case measure => simp [intOf]; omega
          · have e : k = n := by omega
            subst e
            have H2 := hd (HE.out s (by have := Hn.out; exact hval.out) hst.out)
            have hl := (OK.out k s hst.out).outl
            have Hl := hd hl
            clear hl
            go_wp2
            go_ret2
            rw [H2.out]
            exact ⟨_, rfl, by simpa [Hl.out] using ho, hB⟩

set_option maxHeartbeats 2000000 in
set_option maxRecDepth 100000 in
theorem walk (w : World) (a0 : Int) (i0 : I64 a0) (a1 : Int) (i1 : I64 a1) (v2 : Value) (x2 : List Int) (i2 : ∀ x ∈ x2, I64 x) (s2 : Sl w 1 v2 x2.length (x2.map vi)) :
    Calls Try.prog 3 #[.int .i64 a0, .int .i64 a1, v2] w fun e w' => e = .returned (.bool true) ∧ Below w.heap.size w w' := by
  obtain ⟨A2, cap2, hw2, _, hr2⟩ := id s2
  have hv2 := hd hw2; clear hw2
  have hm2 := hr2.2.1
  by_cases b2 : x2.length ≤ 1048576
  rotate_left
  · have e2 := hv2.out; subst e2
    unfold maxLen at hm2
    have hx' : ¬ ((x2.length : Int) ≤ 1048576) := by omega
    go_enter Try.func3, Try.ntmps3
    go_wp2
    go_ret
    exact ⟨rfl, Below.refl _ _⟩
  have hx2 : (x2.length : Int) ≤ 1048576 := by omega
  have z2 := size_le b2
  have bg := len_ok a0 i0 a1 i1 x2 i2 b2
  have zg := size_le bg
  have hB := Below.refl w.heap.size w
  clear hr2 hm2
  have e2 := hv2.out; subst e2; clear hv2
  go_enter Try.func3, Try.ntmps3
  go_wp2_with fail
  refine (toInt64S_any _ x2 _ (s2.below hB) b2).mono ?_; rintro e w1 ⟨s2_, rfl, ho_s2_, hb⟩
  replace ho_s2_ := own_mono ho_s2_ hB.size
  replace hB := below_tr hb hB
  clear hb
  go_wp2_with fail
  refine (spec_any _ a0 i0 a1 i1 _ x2 i2 b2 (own_sl ho_s2_ z2)).mono ?_; rintro e w2 ⟨w0, rfl, ho_w0, hb⟩
  have d_s2__w0 := dj_new ho_s2_ ho_w0
  replace ho_s2_ := own_below ho_s2_ hb
  replace ho_w0 := own_mono ho_w0 hB.size
  replace hB := below_tr hb hB
  clear hb
  clear ho_s2_ d_s2__w0
  go_wp2_with fail
  refine (toInt64S_any _ x2 _ (s2.below hB) b2).mono ?_; rintro e w3 ⟨x2_, rfl, ho_x2_, hb⟩
  have d_w0_x2_ := dj_new ho_w0 ho_x2_
  replace ho_w0 := own_below ho_w0 hb
  replace ho_x2_ := own_mono ho_x2_ hB.size
  replace hB := below_tr hb hB
  clear hb
  go_wp2_with fail
  refine (impl_any _ a0 i0 a1 i1 _ x2 i2 b2 (own_sl ho_x2_ z2)).mono ?_; rintro e w4 ⟨g0, rfl, ho_g0, hb⟩
  have d_w0_g0 := dj_new ho_w0 ho_g0
  have d_x2__g0 := dj_new ho_x2_ ho_g0
  replace ho_w0 := own_below ho_w0 hb
  replace ho_x2_ := own_below ho_x2_ hb
  replace ho_g0 := own_mono ho_g0 hB.size
  replace hB := below_tr hb hB
  clear hb
  go_wp2_with fail
  refine (eqInt64S_b _ _ _ _ _ (own_sl ho_g0 zg) (own_sl ho_w0 zg)).mono ?_; rintro e w5 ⟨rfl, hb⟩
  replace ho_w0 := own_below ho_w0 hb
  replace ho_x2_ := own_below ho_x2_ hb
  replace ho_g0 := own_below ho_g0 hb
  replace hB := below_tr hb hB
  clear hb
  go_wp2_with fail
  refine (toInt64S_any _ x2 _ (s2.below hB) b2).mono ?_; rintro e w6 ⟨c2_, rfl, ho_c2_, hb⟩
  have d_w0_c2_ := dj_new ho_w0 ho_c2_
  have d_x2__c2_ := dj_new ho_x2_ ho_c2_
  have d_g0_c2_ := dj_new ho_g0 ho_c2_
  replace ho_w0 := own_below ho_w0 hb
  replace ho_x2_ := own_below ho_x2_ hb
  replace ho_g0 := own_below ho_g0 hb
  replace ho_c2_ := own_mono ho_c2_ hB.size
  replace hB := below_tr hb hB
  clear hb
  go_wp2_with fail
  refine (eqInt64S_b _ _ x2 x2 _ (own_sl ho_x2_ z2) (own_sl ho_c2_ z2)).mono ?_; rintro e w7 ⟨rfl, hb⟩
  replace ho_w0 := own_below ho_w0 hb
  replace ho_x2_ := own_below ho_x2_ hb
  replace ho_g0 := own_below ho_g0 hb
  replace ho_c2_ := own_below ho_c2_ hb
  replace hB := below_tr hb hB
  clear hb
  clear ho_c2_ d_w0_c2_ d_x2__c2_ d_g0_c2_
  go_wp2_with fail
  have hrow := own_row ho_x2_ (Nat.le_refl _)
  refine (markInt64S_any _ _ _ _ (1) _ ho_x2_ b2 (by omega) (by omega)).mono ?_; rintro e w8 ⟨rfl, ho', hg⟩
  replace ho_w0 := own_kept ho_w0 hg d_w0_x2_
  replace ho_g0 := own_kept ho_g0 hg (dj_symm d_x2__g0)
  replace ho_x2_ := ho'
  replace hB := below_row hg hB hrow
  clear hg hrow ho'
  clear ho_x2_ d_w0_x2_ d_x2__g0
  go_wp2_with fail
  refine (eqInt64S_b _ _ _ _ _ (own_sl ho_g0 zg) (own_sl ho_w0 zg)).mono ?_; rintro e w9 ⟨rfl, hb⟩
  replace ho_w0 := own_below ho_w0 hb
  replace ho_g0 := own_below ho_g0 hb
  replace hB := below_tr hb hB
  clear hb
  go_wp2_with fail
  have hrow := own_row ho_g0 (Nat.le_refl _)
  refine (markInt64S_any _ _ _ _ 1 _ ho_g0 bg (by omega) (by omega)).mono ?_; rintro e w10 ⟨rfl, ho', hg⟩
  replace ho_w0 := own_kept ho_w0 hg d_w0_g0
  replace ho_g0 := ho'
  replace hB := below_row hg hB hrow
  clear hg hrow ho'
  go_wp2_with fail
  refine (heldInt64S_b _ _ 1 _ (own_sl ho_g0 zg) bg (by omega) (by omega)).mono ?_; rintro e w11 ⟨rfl, hb⟩
  replace ho_w0 := own_below ho_w0 hb
  replace ho_g0 := own_below ho_g0 hb
  replace hB := below_tr hb hB
  clear hb
  go_wp2_with fail
  refine (toInt64S_any _ x2 _ (s2.below hB) b2).mono ?_; rintro e w12 ⟨t2_, rfl, ho_t2_, hb⟩
  have d_w0_t2_ := dj_new ho_w0 ho_t2_
  have d_g0_t2_ := dj_new ho_g0 ho_t2_
  replace ho_w0 := own_below ho_w0 hb
  replace ho_g0 := own_below ho_g0 hb
  replace ho_t2_ := own_mono ho_t2_ hB.size
  replace hB := below_tr hb hB
  clear hb
  go_wp2_with fail
  refine (impl_any _ a0 i0 a1 i1 _ x2 i2 b2 (own_sl ho_t2_ z2)).mono ?_; rintro e w13 ⟨h0, rfl, ho_h0, hb⟩
  have d_w0_h0 := dj_new ho_w0 ho_h0
  have d_g0_h0 := dj_new ho_g0 ho_h0
  have d_t2__h0 := dj_new ho_t2_ ho_h0
  replace ho_w0 := own_below ho_w0 hb
  replace ho_g0 := own_below ho_g0 hb
  replace ho_t2_ := own_below ho_t2_ hb
  replace ho_h0 := own_mono ho_h0 hB.size
  replace hB := below_tr hb hB
  clear hb
  go_wp2_with fail
  refine (eqInt64S_b _ _ _ _ _ (own_sl ho_h0 zg) (own_sl ho_w0 zg)).mono ?_; rintro e w14 ⟨rfl, hb⟩
  replace ho_w0 := own_below ho_w0 hb
  replace ho_g0 := own_below ho_g0 hb
  replace ho_t2_ := own_below ho_t2_ hb
  replace ho_h0 := own_below ho_h0 hb
  replace hB := below_tr hb hB
  clear hb
  go_wp2_with fail
  refine (heldInt64S_b _ _ 1 _ (own_sl ho_g0 zg) bg (by omega) (by omega)).mono ?_; rintro e w15 ⟨rfl, hb⟩
  replace ho_w0 := own_below ho_w0 hb
  replace ho_g0 := own_below ho_g0 hb
  replace ho_t2_ := own_below ho_t2_ hb
  replace ho_h0 := own_below ho_h0 hb
  replace hB := below_tr hb hB
  clear hb
  go_wp2_with fail
  go_ret
  exact ⟨rfl, hB⟩

theorem own : ownKnob Try.prog.godebug = none := by kernel_rfl
theorem laidOut : laidOutB Try.prog = true := by kernel_rfl

set_option maxRecDepth 100000 in
theorem lifted (os : Os) (started : os.Started) (H : Type) (enc : TypeId × Value → H) :
    ReturnsInHanded {} Try.checked os 3 .any (Rows.fnExactOnCallsSpec.pre6 enc Try.prog Try.f3 Rows.fnExactOnCallsRow.domain false) (Rows.fnExactOnCallsSpec.post enc Try.prog Try.f3 false true false false) := by
  refine returnsInHanded_of_change (C := Try.checked) own started (by as_aux_lemma => kernel_rfl) Try.func3
    (ChangeSpec.witness6 (enc := enc) (C := Try.checked) false ⟨#[], #[.int .i64 0, .int .i64 0, .slice none 0 0], []⟩ 8 (by as_aux_lemma => kernel_rfl) (by as_aux_lemma => kernel_rfl) (by as_aux_lemma => kernel_rfl) (by as_aux_lemma => kernel_rfl)) ?_
  intro W base args ds gs before hval0 hW hcnd _
  have hval : ∀ (j : Nat) t v, Try.f3.params[j]? = some t → args[j]? = some v → Value.okWide Try.prog W .any base t v := hval0
  have hW' := hW
  obtain ⟨p, q, hA0, hV, rfl, hfz, hnd⟩ := hW
  have hA : DataW.TrodAll enc Try.prog W 0 (fun _ => true) true Try.f3.params.toList args.toList ds p := hA0
  rw [Try.params3] at hA hval
  obtain ⟨v0, vs0, d0, ds0, p0, q0, hargs, rfl, rfl, h0, r0⟩ := trodAll_cons hA
  obtain ⟨v1, vs1, d1, ds1, p1, q1, rfl, rfl, rfl, h1, r1⟩ := trodAll_cons r0
  obtain ⟨v2, vs2, d2, ds2, p2, q2, rfl, rfl, rfl, h2, r2⟩ := trodAll_cons r1
  obtain ⟨rfl, rfl, rfl⟩ := trodAll_nil r2
  obtain rfl : args = #[v0, v1, v2] := by cases args; simp_all
  obtain ⟨rfl, rfl⟩ := trodVars_none hV
  obtain ⟨a0, rfl, rfl, rfl, w0⟩ := open_int Try.underlying2 (hval 0 2 v0 rfl rfl) h0
  obtain ⟨a1, rfl, rfl, rfl, w1⟩ := open_int Try.underlying2 (hval 1 2 v1 rfl rfl) h1
  have k2 := h2
  have lt2 : ∀ x ∈ p2, x.block < W.heap.size := by obtain ⟨m, hm⟩ := k2; exact DataW.trod_lt m _ _ _ hm
  obtain ⟨s2, len2, cap2, rfl⟩ := okWide_slice Try.underlying22 (hval 2 22 v2 rfl rfl)
  obtain ⟨x2, _, i2, w2⟩ := arg_ints Try.underlying22 Try.underlying2 (by as_aux_lemma => kernel_rfl) h2
  clear hA0 hval0
  refine (walk W a0 (i64_of_wf w0) a1 (i64_of_wf w1) _ x2 i2 w2).mono fun e W' ⟨he, bel⟩ => ?_
  subst he
  exact ⟨_, rfl, _, _, _, [], _, [], hW', trodAll_mk1 (shut_bool Try.underlying4 _), (trodAll_cons_mk (shut_int Try.underlying2 w0) (trodAll_cons_mk (shut_int Try.underlying2 w1) (trodAll_cons_mk (Below.trod laidOut (by as_aux_lemma => kernel_rfl) (of_decide_eq_true (by as_aux_lemma => kernel_rfl)) k2 bel lt2) (trodAll_mk0)))), rfl, bel.frame _, fun h => by cases h⟩

/-- The given statement. -/
theorem proved : Rows.FnExactOnCallsSaid :=
  OpenClaim.holds_of_wide 3 Try.f3 rfl rfl rfl rfl rfl rfl rfl ⟨rfl, rfl, rfl, rfl, rfl⟩ rfl rfl rfl rfl rfl (by kernel_rfl) Try.func3 (by kernel_rfl)
    (of_decide_eq_true (by kernel_rfl)) (by unfold Func.isWrapper; first | (rw [if_pos (by decide +kernel)]; kernel_rfl) | (rw [if_neg (by decide +kernel)]; exact ⟨rfl, rfl⟩))
    (fun os started H enc _ => lifted os started H enc)
#print axioms proved

end Go.Proofs.Ytahhmpaaggeakaa.lFnExactOnCalls
