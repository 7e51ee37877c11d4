/- All tables of a period, one by one: the program's walk through them, whatever is done at each. -/
import Derived.Test.YtldehffhpblliaaProg
import Derived.Test.YtldehffhpblliaaRules
import Derived.Test.YtldehffhpblliaaWaits
import Derived.Test.YtldehffhpblliaaTabT
import Derived.Test.YtldehffhpblliaaMaxMin
import Derived.Test.YtldehffhpblliaaApp
import Derived.Test.YtldehffhpblliaaStoreOwn
namespace Go.Proofs.Ytldehffhpblliaa
open Go.RowKit Plain
set_option linter.unusedVariables false
set_option linter.unusedSimpArgs false
attribute [local go_sem ↓] Go.wp_at_zero Go.wp_at_succ

/-- are the rules valid, and the tables few enough? -/
def okT (ev p : Int) (l : List Q4) : Bool := rulesB ev p l && decide (p.toNat ^ (ev.toNat - 1) ≤ 4096)
theorem okT_facts {n p : Nat} {l : List Q4} (h : okT n p l = true) : rulesB n p l = true ∧ p ^ (n - 1) ≤ 4096 ∧ 1 ≤ n ∧ n ≤ 12 ∧ 1 ≤ p ∧ p ≤ 60 ∧ l.length ≤ 32 := by
  rw [okT, Bool.and_eq_true, decide_eq_true_eq] at h
  have h2 := h.1
  simp only [rulesB, Bool.and_eq_true, inR_iff, decide_eq_true_eq] at h2
  simp only [Int.toNat_natCast] at h
  exact ⟨h.1, h.2, by omega, by omega, by omega, by omega, by omega⟩
theorem okT_nat {ev p : Int} {l : List Q4} (h : okT ev p l = true) : ∃ n m : Nat, ev = n ∧ p = m := by
  rw [okT, Bool.and_eq_true] at h
  have h2 := h.1
  simp only [rulesB, Bool.and_eq_true, inR_iff] at h2
  exact ⟨ev.toNat, p.toNat, by omega, by omega⟩
theorem tabOk {n p : Nat} {l : List Q4} (h : rulesB n p l = true) (k : Nat) : TabOk l p (tabK p n k) := by
  have h2 := h
  simp only [rulesB, Bool.and_eq_true, inR_iff, decide_eq_true_eq, List.all_eq_true] at h2
  refine ⟨fun j q hq => ?_, fun i hi => ?_, by omega, by omega, by omega⟩
  · rw [tabK_len]; exact h2.2.2.2 q (List.mem_of_getElem? hq)
  · rw [tabK_len] at hi
    rw [List.getD_eq_getElem?_getD, tabK_get hi]
    have := dig_lt (p := p) (by omega) n k i
    simp only [Option.getD_some]
    omega

/-- a row lies on where its block does -/
theorem own_heap {w w' : World} {base size n : Nat} {e : TypeId} {v : Value} {xs : List Value} (h : w.ownsRow base e size v n xs) (hh : ∀ g, v.ownBlock = some g → w'.heap[g]? = w.heap[g]?) : w'.ownsRow base e size v n xs := by
  refine ⟨h.1, ?_⟩
  rcases h.2 with h | ⟨g, cap, cur, rfl, hb, hg, r⟩
  · exact .inl h
  · exact .inr ⟨g, cap, cur, rfl, hb, by rw [hh g rfl]; exact hg, r⟩

/-- the number that the digits of a row tell -/
def numW (g n p : Nat) (w : World) : Nat := (List.range n).foldl (fun a i => a * p + (intOf ((w.cell? ⟨g, i, none⟩).getD undef)).toNat) 0
theorem num_dig {p : Nat} (hp : 0 < p) : ∀ (n k : Nat), k < p ^ n → (List.range (n + 1)).foldl (fun a i => a * p + dig p (n + 1) k i) 0 = k := by
  intro n
  induction n with
  | zero => intro k hk; simp at hk; subst hk; simp [dig]
  | succ n ih =>
    intro k hk
    rw [List.range_succ, List.foldl_append, List.foldl_cons, List.foldl_nil]
    have e : (List.range (n + 1)).foldl (fun a i => a * p + dig p (n + 1 + 1) k i) 0 = (List.range (n + 1)).foldl (fun a i => a * p + dig p (n + 1) (k / p) i) 0 := by
      suffices h : ∀ (xs : List Nat) (a : Nat), (∀ i ∈ xs, i < n + 1) → xs.foldl (fun a i => a * p + dig p (n + 1 + 1) k i) a = xs.foldl (fun a i => a * p + dig p (n + 1) (k / p) i) a by
        exact h _ _ (fun i hi => List.mem_range.1 hi)
      intro xs
      induction xs with
      | nil => intro a _; rfl
      | cons x xs ihx =>
        intro a hx
        have hxn := hx x (by simp)
        rw [List.foldl_cons, List.foldl_cons]
        have ed : dig p (n + 1 + 1) k x = dig p (n + 1) (k / p) x := by
          unfold dig
          split
          · rfl
          · rw [Nat.div_div_eq_div_mul, ← Nat.pow_succ']
            congr 2
            congr 1
            omega
        rw [ed]
        exact ihx _ (fun i hi => hx i (by simp [hi]))
    rw [e, ih (k / p) (by rw [Nat.div_lt_iff_lt_mul hp]; rwa [Nat.pow_succ] at hk)]
    have : dig p (n + 1 + 1) k (n + 1) = k % p := by simp [dig]
    rw [this, Nat.mul_comm]
    exact Nat.div_add_mod k p
theorem numW_tab {w : World} {base e g n cap p k : Nat} (hp : 0 < p) (hn : 1 ≤ n) (hk : k < p ^ (n - 1)) (h : w.ownsRow base e 1 (.slice (some ⟨g, 0, none⟩) n cap) n ((tabK p n k).map vi)) : numW g n p w = k := by
  obtain ⟨m, rfl⟩ : ∃ m, n = m + 1 := ⟨n - 1, by omega⟩
  have hc : ∀ i, i < m + 1 → (intOf ((w.cell? ⟨g, i, none⟩).getD undef)).toNat = dig p (m + 1) k i := by
    intro i hi
    rw [h.cellAt i (by omega), List.getElem?_map, tabK_get hi]
    simp [vi, intOf]
  have e : numW g (m + 1) p w = (List.range (m + 1)).foldl (fun a i => a * p + dig p (m + 1) k i) 0 := by
    unfold numW
    suffices hx : ∀ (xs : List Nat) (a : Nat), (∀ i ∈ xs, i < m + 1) → xs.foldl (fun a i => a * p + (intOf ((w.cell? ⟨g, i, none⟩).getD undef)).toNat) a = xs.foldl (fun a i => a * p + dig p (m + 1) k i) a from hx _ _ (fun i hi => List.mem_range.1 hi)
    intro xs
    induction xs with
    | nil => intro a _; rfl
    | cons x xs ih =>
      intro a hx
      rw [List.foldl_cons, List.foldl_cons, hc x (hx x (by simp))]
      exact ih _ (fun i hi => hx i (by simp [hi]))
  rw [e]
  exact num_dig hp m k (by simpa using hk)

set_option maxHeartbeats 400000 in
set_option maxRecDepth 100000 in
theorem powered_any (p n : Nat) (hp : p ≤ 60) (hn : n ≤ 12) (w : World) :
    Calls Try.prog 66 #[.int .i64 p, .int .i64 n] w fun r w' => r = .returned (.int .i64 (pwC 65537 p n)) ∧ w = w' := by
  have B : ∀ k, pwC 65537 p k ≤ 65537 := by
    intro k
    cases k with
    | zero => simp [pwC]
    | succ k => rw [pwC]; exact Nat.min_le_left _ _
  have HB := hd B
  have HS := hd (fun k => (show ((pwC 65537 p (k + 1) : Nat) : Int) = min 65537 ((pwC 65537 p k : Int) * p) from by
    have e : (((pwC 65537 p k * p : Nat)) : Int) = (pwC 65537 p k : Int) * p := by push_cast; rfl
    rw [pwC, ← e]; omega))
  clear B
  go_enter Try.func66, Try.ntmps66
  go_wp2
  go_loop [5, 7] (fun o i => ∃ k : Nat, k ≤ n ∧ i = .int .i64 k ∧ o = .int .i64 (pwC 65537 p k)) (fun _ i => n - (intOf i).toNat)
  case atStart => exact ⟨0, by omega, rfl, by rw [pwC]; rfl⟩
  case round =>
    obtain ⟨k, hk, rfl, rfl⟩ := hrel
    by_cases hlt : k < n
    · have b := HB.out k
      have hs := HS.out k
      generalize pwC 65537 p k = q at *
      have hq : q * p ≤ 65537 * 60 := Nat.mul_le_mul b hp
      obtain ⟨qx, hqx⟩ : ∃ x, x = q * p := ⟨_, rfl⟩
      have hqy : (qx : Int) = (q : Int) * p := by rw [hqx]; push_cast; rfl
      have hq2 : (q : Int) * p ≤ 65537 * 60 := by rw [← hqy]; omega
      have hq3 : (0 : Int) ≤ (q : Int) * p := by rw [← hqy]; omega
      clear hqy hqx
      rw [← ite_min] at hs
      have Hs := hd hs
      clear hs hq
      go_wp2
      go_round
      case rel => exact ⟨k + 1, by omega, by go_num, by rw [Hs.out]⟩
      case measure => simp [intOf]; omega
    · have e : k = n := by omega
      subst e
      go_wp2
      go_ret
      exact ⟨rfl, rfl⟩

set_option maxHeartbeats 1000000 in
set_option maxRecDepth 100000 in
theorem tables_CountTables_no (bx : Nat) (ev p : Int) (v : Value) (l : List Q4) (w : World) (hs : Sl w 4 v l.length (q4s l)) (h : okT ev p l = false) :
    Calls Try.prog 54 #[.int .i64 ev, v, .int .i64 p, (.func (.func 55) #[] #[.pointer (some ⟨bx, 0, none⟩)])] w fun e w' => e = .returned (.bool false) ∧ Below w.heap.size w w' := by
  have A1 := hd (AreRules_any ev v l p w hs)
  cases h1 : rulesB ev p l with
  | false =>
    rw [h1] at A1
    clear h h1
    go_enter Try.func54, Try.ntmps54
    go_wp2_with (first | (go_at_call 65; refine A1.out.mono ?_; rintro e w' ⟨rfl, hb⟩))
    go_ret
    exact ⟨rfl, hb⟩
  | true =>
    rw [h1] at A1
    rw [okT, h1, Bool.true_and, decide_eq_false_iff_not] at h
    simp only [rulesB, Bool.and_eq_true, inR_iff] at h1
    obtain ⟨n, rfl⟩ := Int.eq_ofNat_of_zero_le (show 0 ≤ ev by omega)
    obtain ⟨m, rfl⟩ := Int.eq_ofNat_of_zero_le (show 0 ≤ p by omega)
    simp only [Int.toNat_natCast] at h
    have e1 : ((n : Int) - 1) = ((n - 1 : Nat) : Int) := by omega
    have PW := hd (fun w' => powered_any m (n - 1) (by omega) (by omega) w')
    have hb2 : 4096 < pwC 65537 m (n - 1) ∧ pwC 65537 m (n - 1) ≤ 65537 := by rw [pwC_eq (by omega) (by omega)]; omega
    rw [← e1] at PW
    obtain ⟨b1, b2⟩ := hb2
    have b3 : ((4096 : Nat) : Int) < (pwC 65537 m (n - 1) : Nat) := by exact_mod_cast b1
    generalize pwC 65537 m (n - 1) = q at *
    have n1 : (1 : Int) ≤ n := by omega
    have n2 : (n : Int) ≤ 12 := by omega
    clear h h1 e1 hs b1
    go_enter Try.func54, Try.ntmps54
    go_wp2_with (first | (go_at_call 65; refine A1.out.mono ?_; rintro e w' ⟨rfl, hb⟩) | (go_at_call 66; refine (PW.out _).mono ?_; rintro e w2 ⟨rfl, rfl⟩))
    go_ret
    exact ⟨rfl, hb⟩

set_option maxHeartbeats 4000000 in
set_option maxRecDepth 100000 in
theorem tables_CountTables_run (bx : Nat) (n p : Nat) (v : Value) (l : List Q4) (w : World) (hok : okT n p l = true) (c : Bool) (J : Nat → World → Prop) (F : World → Prop)
    (hS : ∀ k w1, J k w1 → Sl w1 4 v l.length (q4s l)) (hZ : ∀ k w1, J k w1 → w.heap.size ≤ w1.heap.size)
    (hG : ∀ k w1 w2 g, J k w1 → w.heap.size ≤ g → w1.grownBy w2 (some g) → J k w2)
    (hNo : ∀ k w1, k < p ^ (n - 1) → keepsB l p (tabK p n k) = false → J k w1 → J (k + 1) w1)
    (hYes : ∀ k w1 u, k < p ^ (n - 1) → keepsB l p (tabK p n k) = true → J k w1 → Sl w1 1 u n ((tabK p n k).map vi) →
      Calls Try.prog 55 #[u, .int .i64 (sumW l p (tabK p n k) l.length), .pointer (some ⟨bx, 0, none⟩)] w1 fun e w2 => e = .returned (.bool c) ∧ (if c = true then J (k + 1) w2 else F w2) ∧ (∀ i, w.heap.size ≤ i → i < w1.heap.size → w2.heap[i]? = w1.heap[i]?))
    (h0 : J 0 w) :
    Calls Try.prog 54 #[.int .i64 n, v, .int .i64 p, (.func (.func 55) #[] #[.pointer (some ⟨bx, 0, none⟩)])] w fun e w' => e = .returned (.bool true) ∧ (if c = true then J (p ^ (n - 1)) w' else (F w' ∨ J (p ^ (n - 1)) w')) := by
  obtain ⟨h1, h2, n1, n2, p1, p2, l32⟩ := okT_facts hok
  have A1 := hd (AreRules_any n v l p w (hS 0 w h0))
  rw [h1] at A1
  have e1 : ((n : Int) - 1) = ((n - 1 : Nat) : Int) := by omega
  have PW := hd (fun w' => powered_any p (n - 1) (by omega) (by omega) w')
  have hb2 : pwC 65537 p (n - 1) ≤ 4096 := by rw [pwC_eq (by omega) (by omega)]; omega
  rw [← e1] at PW
  have b3 : ((pwC 65537 p (n - 1) : Nat) : Int) ≤ (4096 : Nat) := by exact_mod_cast hb2
  generalize pwC 65537 p (n - 1) = q at *
  have WT := hd (fun k w1 u (hj : J k w1) hu => waits_any v u l (tabK p n k) p w1 (hS k w1 hj) (by rw [tabK_len]; exact hu) (tabOk h1 k))
  have HG := hd hG; have HN := hd hNo; have HY := hd hYes; have HZ := hd hZ
  have H0 := hd h0
  have N1 : (1 : Int) ≤ n := by omega
  have N2 : (n : Int) ≤ 12 := by omega
  have P1 : (1 : Int) ≤ p := by omega
  have P2 : (p : Int) ≤ 60 := by omega
  have TZ := hd (tab_zero (p := p) (ev := n))
  have CZ := hd (fun k => carry_zero (p := p) (ev := n) (k := k))
  have CS := hd (fun k a h => carry_step (p := p) (ev := n) (k := k) (a := a) h)
  have NT := hd (fun k j a b c => next_table (p := p) (ev := n) (k := k) (j := j) (by omega) a b c)
  have LT := hd (fun k a b => last_table (p := p) (ev := n) (k := k) (by omega) a b)
  have NL := hd (fun k j a b c d => not_last (p := p) (ev := n) (k := k) (j := j) (by omega) a b c d)
  have RS := hd (fun k j a b => rest_step (p := p) (k := k) (j := j) (by omega) a b)
  have CG := hd (fun k a i h => carry_get (p := p) (ev := n) (k := k) (a := a) (i := i) h)
  have SB := hd (fun k => sumW_bd (tabOk h1 k) l.length)
  have SN := hd (fun k => waitsM_snd l p (tabK p n k))
  have SY := hd (fun k (h : keepsB l p (tabK p n k) = true) => (show (waitsM l p (tabK p n k)).1 = sumW l p (tabK p n k) l.length from by rw [waitsM, if_pos h]))
  have DL := hd (fun k i => dig_lt (p := p) (by omega) n k i)
  have NW := hd (fun w1 cap g base k (hk : k < p ^ (n - 1)) h => numW_tab (w := w1) (base := base) (e := 2) (g := g) (n := n) (cap := cap) (p := p) (k := k) (by omega) n1 hk h)
  have A0 : 0 < p ^ (n - 1) := Nat.pow_pos (by omega)
  obtain ⟨all, hall⟩ : ∃ a, a = p ^ (n - 1) := ⟨_, rfl⟩
  rw [← hall] at HN HY NW A0 LT NL h2 ⊢
  clear hok hS hZ hG hNo hYes h0 h1 e1 hb2
  have Hall := hd hall
  clear hall
  go_enter Try.func54, Try.ntmps54
  go_wp2_with (first | (go_at_call 65; refine A1.out.mono ?_; rintro e w1 ⟨rfl, hb⟩) | (go_at_call 66; refine (PW.out _).mono ?_; rintro e w2 ⟨rfl, rfl⟩) | (at_make; go_must (refine wpList_make_int _ rfl _ rfl _ _ n rfl rfl (by omega) ?_); intro w3 ho3 hb3))
  clear A1 PW
  have hJ3 := HG.out 0 _ _ w.heap.size (HG.out 0 _ _ w.heap.size H0.out (Nat.le_refl _) (below_all hb _)) (Nat.le_refl _) (below_all hb3 _)
  generalize hg : w1.heap.size = g at *
  have Hg := hd (show w.heap.size ≤ g by rw [← hg]; exact hb.size)
  have Ho := hd ho3; have HJ := hd hJ3
  clear ho3 hb3 hb hJ3 hg
  go_loopw [12] (fun _ wr => ∃ k : Nat, k < all ∧ wr.ownsRow g 2 1 (.slice (some ⟨g, 0, none⟩) n n) n ((tabK p n k).map vi) ∧ J k wr) (fun _ wr => all - numW g n p wr)
  case atStart => exact ⟨0, A0, by rw [TZ.out]; simpa [vi] using Ho.out, HJ.out⟩
  case round =>
    obtain ⟨k, hk, ho, hJ⟩ := hrel
    clear Ho HJ
    have hnum := NW.out _ _ _ _ k hk ho
    have Hnum := hd hnum
    clear hnum
    cases c with
    | true =>
      cases hkb : keepsB l p (tabK p n k) with
      | false =>
        have W := WT.out k wr _ hJ (own_sl ho (size_le (by omega)))
        rw [SN.out k, hkb] at W
        have WH := hd W
        have Ho := hd ho; have HJ := hd hJ
        clear W ho hJ
        go_wp2_with (first | (go_at_call 67; refine WH.out.mono ?_; rintro e w4 ⟨rfl, hb4⟩))
        have hO4 := own_below Ho.out hb4
        have hJ4 := HN.out k _ hk hkb (HG.out k _ _ w.heap.size HJ.out (Nat.le_refl _) (below_all hb4 _))
        clear Ho HJ WH hb4
        have HO5 := hd hO4; have HJ6 := hd hJ4
        clear hO4 hJ4
        go_loopw [12] (fun at' wr5 => ∃ a : Nat, at' = .int .i64 a ∧ a ≤ n - 1 ∧ Hid (k % p ^ (n - 1 - a) = p ^ (n - 1 - a) - 1) ∧ wr5.ownsRow g 2 1 (.slice (some ⟨g, 0, none⟩) n n) n ((carry p n k a).map vi) ∧ J (k + 1) wr5) (fun at' _ => (intOf at').toNat)
        case atStart => exact ⟨n - 1, by go_num, by omega, hd (by simp; omega), by rw [CZ.out]; exact HO5.out, HJ6.out⟩
        case round =>
          obtain ⟨a, rfl, ha, hres, ho6, hj6⟩ := hrel
          clear HO5 HJ6
          by_cases a0 : a = 0
          · subst a0
            have hlast := LT.out k hk (by have := hres.out; rw [Hall.out]; simpa using this)
            have HJ5 := hj6
            rw [hlast] at HJ5
            clear hlast
            go_wp2
            go_ret
            simp only [if_true, Bool.false_eq_true, if_false]
            exact ⟨rfl, Hall.out ▸ HJ5⟩
          · obtain ⟨a', rfl⟩ : ∃ a', a = a' + 1 := ⟨a - 1, by omega⟩
            have hdl := DL.out k (a' + 1)
            have hcell := ho6.cellAt (a' + 1) (by omega)
            rw [List.getElem?_map, CG.out k (a' + 1) (a' + 1) (by omega), if_neg (by omega)] at hcell
            simp only [Option.map_some, vi] at hcell
            have hdig : dig p n k (a' + 1) = (k / p ^ (n - 1 - (a' + 1))) % p := by rw [dig, if_neg (by omega)]
            have hja : n - 1 - (n - 1 - (a' + 1)) = a' + 1 := by omega
            have HD := hd hdig; have HJA := hd hja
            clear hdig hja
            generalize hdv : dig p n k (a' + 1) = d at *
            have HDV := hd hdv
            clear hdv
            have x1 : (0 : Int) < (a' + 1 : Nat) := by omega
            have x2 : ((a' + 1 : Nat) : Int) < n := by omega
            by_cases hd1 : (d : Int) = (p : Int) - 1
            · have hrs := RS.out k (n - 1 - (a' + 1)) hres.out (by rw [← HD.out]; omega)
              rw [show n - 1 - (a' + 1) + 1 = n - 1 - a' by omega] at hrs
              have HRS := hd hrs
              have HJ7 := hd hj6
              have hd1' := hd hd1
              clear hrs hj6
              rw [hd1] at hcell
              clear hd1
              go_wp2_with ((with_reducible refine wpList_store_own _ g 2 1 n n g _ ho6 size_int ?_ ?_ ?_ ?_ ?_ ?_ ?_); rotate_left 2; exact rfl; exact rfl; exact rfl; omega; intro w6 ho7 hg7)
              go_roundw
              case rel =>
                have e : w6.ownsRow g 2 1 (.slice (some ⟨g, 0, none⟩) n n) n (((carry p n k (a' + 1)).map vi).set (a' + 1) (vi 0)) := ho7
                rw [← List.map_set, CS.out k a' (by omega)] at e
                exact ⟨a', by first | rfl | go_num | (simp; omega), by omega, HRS, e, HG.out _ _ _ _ HJ7.out Hg.out hg7⟩
              case measure => simp [intOf]; try omega
            · have hnl := NL.out k (n - 1 - (a' + 1)) (by omega) hk hres.out (by rw [← HD.out]; omega)
              have hnt := NT.out k (n - 1 - (a' + 1)) (by omega) hres.out (by rw [← HD.out]; omega)
              rw [HJA.out, HDV.out] at hnt
              have HNL := hd hnl; have HNT := hd hnt; have HJ7 := hd hj6
              clear hnl hnt hj6
              have dp : (d : Int) < p := by omega
              go_wp2_with ((with_reducible refine wpList_store_own _ g 2 1 n n g _ ho6 size_int ?_ ?_ ?_ ?_ ?_ ?_ ?_); rotate_left 2; exact rfl; exact rfl; exact rfl; omega; intro w6 ho7 hg7)
              have e : w6.ownsRow g 2 1 (.slice (some ⟨g, 0, none⟩) n n) n (((carry p n k (a' + 1)).map vi).set (a' + 1) (vi ((d : Int) + 1))) := ho7
              rw [← List.map_set, HNT.out] at e
              go_roundw
              case rel =>
                exact ⟨k + 1, HNL.out, e, HG.out _ _ _ _ HJ7.out Hg.out hg7⟩
              case measure =>
                rw [NW.out _ _ _ _ _ HNL.out e, Hnum.out]
                have := HNL.out
                omega

      | true =>
        have W := WT.out k wr _ hJ (own_sl ho (size_le (by omega)))
        rw [SN.out k, hkb] at W
        rw [SY.out k hkb] at W
        have Y := fun w1 hj hu => HY.out k w1 (.slice (some ⟨g, 0, none⟩) n n) hk hkb hj hu
        obtain ⟨sb0, sb1⟩ := SB.out k
        have WH := hd W
        have Ho := hd ho; have HJ := hd hJ
        have YH := hd Y
        clear Y
        clear W ho hJ
        go_wp2_with (first | (go_at_call 67; refine WH.out.mono ?_; rintro e w4 ⟨rfl, hb4⟩) | (go_at_call 55; refine (YH.out _ (HG.out k _ _ w.heap.size HJ.out (Nat.le_refl _) (below_all hb4 _)) (own_sl (own_below Ho.out hb4) (size_le (by omega)))).mono ?_; rintro e w5 ⟨rfl, hj5, hh5⟩))
        have hO4 := own_heap (own_below Ho.out hb4) (fun q hq => hh5 q (by cases hq; exact Hg.out) (by cases hq; exact (own_in (own_below Ho.out hb4) _ rfl)))
        have hJ4 : J (k + 1) w5 := by simpa using hj5
        clear Ho HJ WH YH hb4 hh5 hj5
        have HO5 := hd hO4; have HJ6 := hd hJ4
        clear hO4 hJ4
        go_loopw [12] (fun at' wr5 => ∃ a : Nat, at' = .int .i64 a ∧ a ≤ n - 1 ∧ Hid (k % p ^ (n - 1 - a) = p ^ (n - 1 - a) - 1) ∧ wr5.ownsRow g 2 1 (.slice (some ⟨g, 0, none⟩) n n) n ((carry p n k a).map vi) ∧ J (k + 1) wr5) (fun at' _ => (intOf at').toNat)
        case atStart => exact ⟨n - 1, by go_num, by omega, hd (by simp; omega), by rw [CZ.out]; exact HO5.out, HJ6.out⟩
        case round =>
          obtain ⟨a, rfl, ha, hres, ho6, hj6⟩ := hrel
          clear HO5 HJ6
          by_cases a0 : a = 0
          · subst a0
            have hlast := LT.out k hk (by have := hres.out; rw [Hall.out]; simpa using this)
            have HJ5 := hj6
            rw [hlast] at HJ5
            clear hlast
            go_wp2
            go_ret
            simp only [if_true, Bool.false_eq_true, if_false]
            exact ⟨rfl, Hall.out ▸ HJ5⟩
          · obtain ⟨a', rfl⟩ : ∃ a', a = a' + 1 := ⟨a - 1, by omega⟩
            have hdl := DL.out k (a' + 1)
            have hcell := ho6.cellAt (a' + 1) (by omega)
            rw [List.getElem?_map, CG.out k (a' + 1) (a' + 1) (by omega), if_neg (by omega)] at hcell
            simp only [Option.map_some, vi] at hcell
            have hdig : dig p n k (a' + 1) = (k / p ^ (n - 1 - (a' + 1))) % p := by rw [dig, if_neg (by omega)]
            have hja : n - 1 - (n - 1 - (a' + 1)) = a' + 1 := by omega
            have HD := hd hdig; have HJA := hd hja
            clear hdig hja
            generalize hdv : dig p n k (a' + 1) = d at *
            have HDV := hd hdv
            clear hdv
            have x1 : (0 : Int) < (a' + 1 : Nat) := by omega
            have x2 : ((a' + 1 : Nat) : Int) < n := by omega
            by_cases hd1 : (d : Int) = (p : Int) - 1
            · have hrs := RS.out k (n - 1 - (a' + 1)) hres.out (by rw [← HD.out]; omega)
              rw [show n - 1 - (a' + 1) + 1 = n - 1 - a' by omega] at hrs
              have HRS := hd hrs
              have HJ7 := hd hj6
              have hd1' := hd hd1
              clear hrs hj6
              rw [hd1] at hcell
              clear hd1
              go_wp2_with ((with_reducible refine wpList_store_own _ g 2 1 n n g _ ho6 size_int ?_ ?_ ?_ ?_ ?_ ?_ ?_); rotate_left 2; exact rfl; exact rfl; exact rfl; omega; intro w6 ho7 hg7)
              go_roundw
              case rel =>
                have e : w6.ownsRow g 2 1 (.slice (some ⟨g, 0, none⟩) n n) n (((carry p n k (a' + 1)).map vi).set (a' + 1) (vi 0)) := ho7
                rw [← List.map_set, CS.out k a' (by omega)] at e
                exact ⟨a', by first | rfl | go_num | (simp; omega), by omega, HRS, e, HG.out _ _ _ _ HJ7.out Hg.out hg7⟩
              case measure => simp [intOf]; try omega
            · have hnl := NL.out k (n - 1 - (a' + 1)) (by omega) hk hres.out (by rw [← HD.out]; omega)
              have hnt := NT.out k (n - 1 - (a' + 1)) (by omega) hres.out (by rw [← HD.out]; omega)
              rw [HJA.out, HDV.out] at hnt
              have HNL := hd hnl; have HNT := hd hnt; have HJ7 := hd hj6
              clear hnl hnt hj6
              have dp : (d : Int) < p := by omega
              go_wp2_with ((with_reducible refine wpList_store_own _ g 2 1 n n g _ ho6 size_int ?_ ?_ ?_ ?_ ?_ ?_ ?_); rotate_left 2; exact rfl; exact rfl; exact rfl; omega; intro w6 ho7 hg7)
              have e : w6.ownsRow g 2 1 (.slice (some ⟨g, 0, none⟩) n n) n (((carry p n k (a' + 1)).map vi).set (a' + 1) (vi ((d : Int) + 1))) := ho7
              rw [← List.map_set, HNT.out] at e
              go_roundw
              case rel =>
                exact ⟨k + 1, HNL.out, e, HG.out _ _ _ _ HJ7.out Hg.out hg7⟩
              case measure =>
                rw [NW.out _ _ _ _ _ HNL.out e, Hnum.out]
                have := HNL.out
                omega

    | false =>
      cases hkb : keepsB l p (tabK p n k) with
      | false =>
        have W := WT.out k wr _ hJ (own_sl ho (size_le (by omega)))
        rw [SN.out k, hkb] at W
        have WH := hd W
        have Ho := hd ho; have HJ := hd hJ
        clear W ho hJ
        go_wp2_with (first | (go_at_call 67; refine WH.out.mono ?_; rintro e w4 ⟨rfl, hb4⟩))
        have hO4 := own_below Ho.out hb4
        have hJ4 := HN.out k _ hk hkb (HG.out k _ _ w.heap.size HJ.out (Nat.le_refl _) (below_all hb4 _))
        clear Ho HJ WH hb4
        have HO5 := hd hO4; have HJ6 := hd hJ4
        clear hO4 hJ4
        go_loopw [12] (fun at' wr5 => ∃ a : Nat, at' = .int .i64 a ∧ a ≤ n - 1 ∧ Hid (k % p ^ (n - 1 - a) = p ^ (n - 1 - a) - 1) ∧ wr5.ownsRow g 2 1 (.slice (some ⟨g, 0, none⟩) n n) n ((carry p n k a).map vi) ∧ J (k + 1) wr5) (fun at' _ => (intOf at').toNat)
        case atStart => exact ⟨n - 1, by go_num, by omega, hd (by simp; omega), by rw [CZ.out]; exact HO5.out, HJ6.out⟩
        case round =>
          obtain ⟨a, rfl, ha, hres, ho6, hj6⟩ := hrel
          clear HO5 HJ6
          by_cases a0 : a = 0
          · subst a0
            have hlast := LT.out k hk (by have := hres.out; rw [Hall.out]; simpa using this)
            have HJ5 := hj6
            rw [hlast] at HJ5
            clear hlast
            go_wp2
            go_ret
            simp only [if_true, Bool.false_eq_true, if_false]
            exact ⟨rfl, .inr (Hall.out ▸ HJ5)⟩
          · obtain ⟨a', rfl⟩ : ∃ a', a = a' + 1 := ⟨a - 1, by omega⟩
            have hdl := DL.out k (a' + 1)
            have hcell := ho6.cellAt (a' + 1) (by omega)
            rw [List.getElem?_map, CG.out k (a' + 1) (a' + 1) (by omega), if_neg (by omega)] at hcell
            simp only [Option.map_some, vi] at hcell
            have hdig : dig p n k (a' + 1) = (k / p ^ (n - 1 - (a' + 1))) % p := by rw [dig, if_neg (by omega)]
            have hja : n - 1 - (n - 1 - (a' + 1)) = a' + 1 := by omega
            have HD := hd hdig; have HJA := hd hja
            clear hdig hja
            generalize hdv : dig p n k (a' + 1) = d at *
            have HDV := hd hdv
            clear hdv
            have x1 : (0 : Int) < (a' + 1 : Nat) := by omega
            have x2 : ((a' + 1 : Nat) : Int) < n := by omega
            by_cases hd1 : (d : Int) = (p : Int) - 1
            · have hrs := RS.out k (n - 1 - (a' + 1)) hres.out (by rw [← HD.out]; omega)
              rw [show n - 1 - (a' + 1) + 1 = n - 1 - a' by omega] at hrs
              have HRS := hd hrs
              have HJ7 := hd hj6
              have hd1' := hd hd1
              clear hrs hj6
              rw [hd1] at hcell
              clear hd1
              go_wp2_with ((with_reducible refine wpList_store_own _ g 2 1 n n g _ ho6 size_int ?_ ?_ ?_ ?_ ?_ ?_ ?_); rotate_left 2; exact rfl; exact rfl; exact rfl; omega; intro w6 ho7 hg7)
              go_roundw
              case rel =>
                have e : w6.ownsRow g 2 1 (.slice (some ⟨g, 0, none⟩) n n) n (((carry p n k (a' + 1)).map vi).set (a' + 1) (vi 0)) := ho7
                rw [← List.map_set, CS.out k a' (by omega)] at e
                exact ⟨a', by first | rfl | go_num | (simp; omega), by omega, HRS, e, HG.out _ _ _ _ HJ7.out Hg.out hg7⟩
              case measure => simp [intOf]; try omega
            · have hnl := NL.out k (n - 1 - (a' + 1)) (by omega) hk hres.out (by rw [← HD.out]; omega)
              have hnt := NT.out k (n - 1 - (a' + 1)) (by omega) hres.out (by rw [← HD.out]; omega)
              rw [HJA.out, HDV.out] at hnt
              have HNL := hd hnl; have HNT := hd hnt; have HJ7 := hd hj6
              clear hnl hnt hj6
              have dp : (d : Int) < p := by omega
              go_wp2_with ((with_reducible refine wpList_store_own _ g 2 1 n n g _ ho6 size_int ?_ ?_ ?_ ?_ ?_ ?_ ?_); rotate_left 2; exact rfl; exact rfl; exact rfl; omega; intro w6 ho7 hg7)
              have e : w6.ownsRow g 2 1 (.slice (some ⟨g, 0, none⟩) n n) n (((carry p n k (a' + 1)).map vi).set (a' + 1) (vi ((d : Int) + 1))) := ho7
              rw [← List.map_set, HNT.out] at e
              go_roundw
              case rel =>
                exact ⟨k + 1, HNL.out, e, HG.out _ _ _ _ HJ7.out Hg.out hg7⟩
              case measure =>
                rw [NW.out _ _ _ _ _ HNL.out e, Hnum.out]
                have := HNL.out
                omega

      | true =>
        have W := WT.out k wr _ hJ (own_sl ho (size_le (by omega)))
        rw [SN.out k, hkb] at W
        rw [SY.out k hkb] at W
        have Y := fun w1 hj hu => HY.out k w1 (.slice (some ⟨g, 0, none⟩) n n) hk hkb hj hu
        obtain ⟨sb0, sb1⟩ := SB.out k
        have WH := hd W
        have Ho := hd ho; have HJ := hd hJ
        have YH := hd Y
        clear Y
        clear W ho hJ
        go_wp2_with (first | (go_at_call 67; refine WH.out.mono ?_; rintro e w4 ⟨rfl, hb4⟩) | (go_at_call 55; refine (YH.out _ (HG.out k _ _ w.heap.size HJ.out (Nat.le_refl _) (below_all hb4 _)) (own_sl (own_below Ho.out hb4) (size_le (by omega)))).mono ?_; rintro e w5 ⟨rfl, hj5, hh5⟩))
        go_ret
        simp only [Bool.false_eq_true, if_false] at hj5 ⊢
        exact ⟨rfl, .inl hj5⟩



end Go.Proofs.Ytldehffhpblliaa
