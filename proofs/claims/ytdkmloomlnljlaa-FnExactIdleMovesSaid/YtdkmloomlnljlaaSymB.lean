/- The merge of the library's stable sort where the second part is one place: a contract. -/
import Derived.Test.YtdkmloomlnljlaaProg
import Derived.Test.YtdkmloomlnljlaaSymI
namespace Go.Proofs.Ytdkmloomlnljlaa
open Go.RowKit Plain
set_option linter.unusedVariables false
set_option linter.unusedSimpArgs false
attribute [local go_sem ↓] Go.wp_at_zero Go.wp_at_succ
set_option maxHeartbeats 4000000 in
set_option maxRecDepth 100000 in
theorem symB_any (K : Int → Int) (base g n cd bK : Nat) (f : Nat → Int) (a m b : Nat) (ham : a + 1 < m) (hm : b = m + 1) (hb : b ≤ n) (n64 : n ≤ 64) (hf : ∀ k, k < n → 0 ≤ f k ∧ f k < (n : Int)) (pre : SymPre (qK K) f a m b) (w : World) (ho : RowF w base g n cd f) (hc : CmpOk K n g bK w) :
    Calls Try.prog 38 #[.slice (some ⟨g, 0, none⟩) n cd, .int .i64 a, .int .i64 m, .int .i64 b, .func (.func 30) #[] #[.pointer (some ⟨bK, 0, none⟩)]] w (PartB K base g n cd f a b w) := by
  have HO := hd ho
  have HF := hd hf
  have PRE := hd pre
  have LS := hd hc
  have HM := hd hm
  obtain ⟨d, hd0⟩ : ∃ d, d = m - a := ⟨_, rfl⟩
  have w0 : IntKind.i64.wrap ((m : Int) - (a : Int)) = (d : Int) := by rw [IntWalk.i64_in _ (by omega)]; omega
  have w9 : IntKind.i64.wrap ((b : Int) - (m : Int)) = 1 := by rw [IntWalk.i64_in _ (by omega)]; omega
  have b0 : ((d : Int) == 1) = false := by simp; omega
  have b1 : ¬ (d : Int) = 1 := by omega
  have b2 : ¬ d = 1 := by omega
  have mn : m < n := by omega
  have mn2 : (m : Int) < (n : Int) := Int.ofNat_lt.2 mn
  clear ho hf pre hc hm hd0
  go_enter Try.func38, Try.ntmps38
  go_wp2
  clear w0 w9 b0 b1 b2
  go_loopw [14, 15] (fun iv jv wr => ∃ i j : Nat, a ≤ i ∧ i ≤ j ∧ j ≤ m ∧ iv = .int .i64 i ∧ jv = .int .i64 j ∧ Hid (a < i → qK K (f (i - 1)) < qK K (f m)) ∧ Hid (j < m → qK K (f m) < qK K (f j)) ∧ Hid (RowF wr base g n cd f) ∧ Hid (w.grownBy wr (some g))) (fun iv jv _ => (intOf jv).toNat - (intOf iv).toNat)
  case atStart => exact ⟨a, m, Nat.le_refl _, by omega, Nat.le_refl _, rfl, rfl, hd (fun h => by omega), hd (fun h => by omega), HO, hd (World.grownBy.refl _ _)⟩
  case round =>
    obtain ⟨i, j, hi, hij, hj, rfl, rfl, C1, C2, HR, HG⟩ := hrel
    rcases Nat.lt_or_ge i j with hlt | hge
    · have i2 : (i : Int) < (j : Int) := Int.ofNat_lt.2 hlt
      obtain ⟨h, hh⟩ : ∃ h, h = (i + j) / 2 := ⟨_, rfl⟩
      have hh2 : ((i : Int) + (j : Int)) / 2 = (h : Int) := by omega
      have hih : i ≤ h := by omega
      have hhj : h < j := by omega
      have hn : h < n := by omega
      have hn2 : (h : Int) < (n : Int) := Int.ofNat_lt.2 hn
      have hw : IntKind.i64.wrap ((h : Int) + 1) = (h : Int) + 1 := IntWalk.i64_in _ (by omega)
      have ch := HR.out.cell hn
      have ca := HR.out.cell mn
      have bh := HF.out h hn
      have ba := HF.out m mn
      have hgt : f h < f m := PRE.out.x h m (by omega) (by omega) (Nat.le_refl _) (by have := HM.out; omega)
      have q1 := qK_lt (K := K) bh.1 hgt (by omega)
      have q2 := qK_ge (K := K) bh.1 hgt (by omega)
      have LSx := LS.out wr HG.out (f m) (f h) ba.1 ba.2 bh.1 bh.2
      by_cases hc : K (f m) < K (f h)
      · rw [cmp_lt hc] at LSx
        have C3 := hd (show h < m → qK K (f m) < qK K (f h) from fun _ => q1.2 hc)
        clear hc q1 q2 bh ba hgt C2 hh hw
        obtain ⟨va, hva⟩ : ∃ x, f h = x := ⟨_, rfl⟩
        obtain ⟨vb', hvb⟩ : ∃ x, f m = x := ⟨_, rfl⟩
        rw [hva] at ch LSx
        rw [hvb] at ca LSx
        clear hva hvb
        go_wp2
        clear hh2
        go_quiet ((go_at_call 30; exact (LSx _).mono fun _ _ h => by obtain ⟨h1, m, h2⟩ := h; exact ⟨h1, _, h2⟩))
        clear LSx ch ca
        go_wp2
        go_roundw
        case rel => exact ⟨i, h, hi, hih, by omega, rfl, rfl, C1, C3, hd (by exact HR.out), hd (HG.out.trans (below_all (below_drewN (Below.refl _ _) _) _))⟩
        case measure => simp [intOf]; omega
      · have hz := cmp_ge hc
        have C3 := hd (show a < h + 1 → qK K (f (h + 1 - 1)) < qK K (f m) from fun _ => q2.2 hc)
        clear hc q1 q2 bh ba hgt C1 hh
        generalize cmpI (K (f m)) (K (f h)) = z at *
        have hz2 : decide (z < 0) = false := by simpa using hz
        have hz3 : 0 ≤ z := by omega
        obtain ⟨va, hva⟩ : ∃ x, f h = x := ⟨_, rfl⟩
        obtain ⟨vb', hvb⟩ : ∃ x, f m = x := ⟨_, rfl⟩
        rw [hva] at ch LSx
        rw [hvb] at ca LSx
        clear hva hvb
        go_wp2
        clear hh2
        go_quiet ((go_at_call 30; exact (LSx _).mono fun _ _ h => by obtain ⟨h1, m, h2⟩ := h; exact ⟨h1, _, h2⟩))
        clear LSx ch ca
        go_wp2
        go_roundw
        case rel => exact ⟨h + 1, j, by omega, by omega, hj, by go_num, rfl, C3, C2, hd (by exact HR.out), hd (HG.out.trans (below_all (below_drewN (Below.refl _ _) _) _))⟩
        case measure => simp [intOf]; omega
    · obtain rfl : i = j := by omega
      have EP := hd (show SymPost (qK K) f (rotF f i m b) a b by
        have pre := PRE.out
        rw [HM.out] at pre ⊢
        exact sym_last pre hi hj C1.out C2.out)
      have HR0 := hd (show RowF wr base g n cd (rotF f m m (m + 1)) by
        rw [rot_no f m m (m + 1) (Nat.le_refl _) (by omega) (by omega)]; exact HR.out)
      clear HR C1 C2 LS
      go_wp2
      go_loopw [17] (fun kv wr2 => ∃ k : Nat, i ≤ k ∧ k ≤ m ∧ kv = .int .i64 k ∧ Hid (RowF wr2 base g n cd (rotF f k m (m + 1))) ∧ Hid (w.grownBy wr2 (some g))) (fun kv _ => (intOf kv).toNat)
      case atStart => exact ⟨m, hj, Nat.le_refl _, rfl, HR0, HG⟩
      case round =>
        clear HR0 HG
        obtain ⟨k, hk1, hk2, rfl, HR, HG⟩ := hrel
        by_cases hlt : i < k
        · have k2 : (i : Int) < (k : Int) := Int.ofNat_lt.2 hlt
          obtain ⟨kk, hkk⟩ : ∃ kk, k = kk + 1 := ⟨k - 1, by omega⟩
          have w2 : IntKind.i64.wrap ((k : Int) - 1) = (kk : Int) := by rw [IntWalk.i64_in _ (by omega)]; omega
          have kn : k < n := by omega
          have kkn : kk < n := by omega
          have kn2 : (k : Int) < (n : Int) := Int.ofNat_lt.2 kn
          have kkn2 : (kk : Int) < (n : Int) := Int.ofNat_lt.2 kkn
          have ne1 : ¬ k = kk := by omega
          have ne2 : ¬ (k : Int) = (kk : Int) := by omega
          have ne3 : ¬ kk = k := by omega
          have cx := HR.out.cell kn
          have cy := HR.out.cell kkn
          have fx := HR.out.frozen k
          have fy := HR.out.frozen kk
          have HS := hd (HR.out.swap kn kkn)
          have EF := hd (show rotF f kk m (m + 1) = fun x => if x = kk then rotF f k m (m + 1) k else if x = k then rotF f k m (m + 1) kk else rotF f k m (m + 1) x by
            have e := rot_step f kk m (by omega)
            rw [← hkk] at e
            exact e)
          have HKK := hd hkk
          generalize rotF f k m (m + 1) k = va at *
          generalize rotF f k m (m + 1) kk = vb' at *
          clear hkk
          go_wp2
          go_region
          have hg9 : w.grownBy ((wr.setCell ⟨g, k, none⟩ (.int .i64 vb')).setCell ⟨g, kk, none⟩ (.int .i64 va)).drew (some g) := (HG.out.trans HS.out.2).trans (below_all ((Below.refl _ _).drew) _)
          have ho9 : RowF ((wr.setCell ⟨g, k, none⟩ (.int .i64 vb')).setCell ⟨g, kk, none⟩ (.int .i64 va)).drew base g n cd (rotF f kk m (m + 1)) := by rw [EF.out]; exact World.ownsRow.drew HS.out.1
          obtain ⟨w9, hw9⟩ : ∃ w9, w9 = ((wr.setCell ⟨g, k, none⟩ (.int .i64 vb')).setCell ⟨g, kk, none⟩ (.int .i64 va)).drew := ⟨_, rfl⟩
          rw [← hw9] at hg9 ho9 ⊢
          have HO9 := hd ho9
          have HG9 := hd hg9
          clear hw9 hg9 ho9 cx cy fx fy HS EF ne1 ne2 ne3 kkn2
          go_wp2
          go_roundw
          case rel => exact ⟨kk, by have := HKK.out; omega, by have := HKK.out; omega, by first | rfl | go_num, HO9, HG9⟩
          case measure => have := HKK.out; simp [intOf]; omega
        · obtain rfl : k = i := by omega
          have EQ := hd (show RowF wr base g n cd (rotF f k m b) by rw [HM.out]; exact HR.out)
          clear HR
          go_wp2
          refine bodyPost_end (results_none rfl _ _ _) rfl ?_
          exact ⟨⟨_, rfl⟩, ⟨_, EQ.out, EP.out⟩, HG.out⟩
end Go.Proofs.Ytdkmloomlnljlaa
