/- The merge of the library's stable sort where the first part is one place: a contract. -/
import Derived.Test.YtdkmloomlnljlaaProg
import Derived.Test.YtdkmloomlnljlaaSymI
namespace Go.Proofs.Ytdkmloomlnljlaa
open Go.RowKit Plain
set_option linter.unusedVariables false
set_option linter.unusedSimpArgs false
attribute [local go_sem ↓] Go.wp_at_zero Go.wp_at_succ
set_option maxHeartbeats 4000000 in
set_option maxRecDepth 100000 in
theorem symA_any (K : Int → Int) (base g n cd bK : Nat) (f : Nat → Int) (a m b : Nat) (hm : m = a + 1) (hmb : m < b) (hb : b ≤ n) (n64 : n ≤ 64) (hf : ∀ k, k < n → 0 ≤ f k ∧ f k < (n : Int)) (pre : SymPre (qK K) f a m b) (w : World) (ho : RowF w base g n cd f) (hc : CmpOk K n g bK w) :
    Calls Try.prog 38 #[.slice (some ⟨g, 0, none⟩) n cd, .int .i64 a, .int .i64 m, .int .i64 b, .func (.func 30) #[] #[.pointer (some ⟨bK, 0, none⟩)]] w (PartB K base g n cd f a b w) := by
  have HO := hd ho
  have HF := hd hf
  have PRE := hd pre
  have LS := hd hc
  have HM := hd hm
  have w0 : IntKind.i64.wrap ((m : Int) - (a : Int)) = 1 := by rw [IntWalk.i64_in _ (by omega)]; omega
  clear ho hf pre hc hm
  go_enter Try.func38, Try.ntmps38
  go_wp2
  clear w0
  go_loopw [10, 11] (fun iv jv wr => ∃ i j : Nat, m ≤ i ∧ i ≤ j ∧ j ≤ b ∧ iv = .int .i64 i ∧ jv = .int .i64 j ∧ Hid (m < i → qK K (f (i - 1)) < qK K (f a)) ∧ Hid (j < b → qK K (f a) < qK K (f j)) ∧ Hid (RowF wr base g n cd f) ∧ Hid (w.grownBy wr (some g))) (fun iv jv _ => (intOf jv).toNat - (intOf iv).toNat)
  case atStart => exact ⟨m, b, Nat.le_refl _, by omega, Nat.le_refl _, rfl, rfl, hd (fun h => by omega), hd (fun h => by omega), HO, hd (World.grownBy.refl _ _)⟩
  case round =>
    obtain ⟨i, j, hi, hij, hj, rfl, rfl, C1, C2, HR, HG⟩ := hrel
    rcases Nat.lt_or_ge i j with hlt | hge
    · have i2 : (i : Int) < (j : Int) := Int.ofNat_lt.2 hlt
      obtain ⟨h, hh⟩ : ∃ h, h = (i + j) / 2 := ⟨_, rfl⟩
      have hh2 : ((i : Int) + (j : Int)) / 2 = (h : Int) := by omega
      have hih : i ≤ h := by omega
      have hhj : h < j := by omega
      have hn : h < n := by omega
      have an : a < n := by have := HM.out; omega
      have hn2 : (h : Int) < (n : Int) := Int.ofNat_lt.2 hn
      have an2 : (a : Int) < (n : Int) := Int.ofNat_lt.2 an
      have hw : IntKind.i64.wrap ((h : Int) + 1) = (h : Int) + 1 := IntWalk.i64_in _ (by omega)
      have ch := HR.out.cell hn
      have ca := HR.out.cell an
      have bh := HF.out h hn
      have ba := HF.out a an
      have hgt : f a < f h := PRE.out.x a h (Nat.le_refl _) (by have := HM.out; omega) (by omega) (by omega)
      have q1 := qK_lt (K := K) ba.1 hgt (by omega)
      have q2 := qK_ge (K := K) ba.1 hgt (by omega)
      have LSx := LS.out wr HG.out (f h) (f a) bh.1 bh.2 ba.1 ba.2
      by_cases hc : K (f h) < K (f a)
      · rw [cmp_lt hc] at LSx
        have C3 := hd (show m < h + 1 → qK K (f (h + 1 - 1)) < qK K (f a) from fun _ => q1.2 hc)
        clear hc q1 q2 bh ba hgt C1 hh
        obtain ⟨va, hva⟩ : ∃ x, f h = x := ⟨_, rfl⟩
        obtain ⟨vb', hvb⟩ : ∃ x, f a = x := ⟨_, rfl⟩
        rw [hva] at ch LSx
        rw [hvb] at ca LSx
        clear hva hvb
        go_wp2
        clear hh2
        go_quiet ((go_at_call 30; exact (LSx _).mono fun _ _ h => by obtain ⟨h1, m, h2⟩ := h; exact ⟨h1, _, h2⟩))
        clear LSx ch ca
        go_wp2
        go_roundw
        case rel => exact ⟨h + 1, j, by omega, by omega, hj, by go_num, rfl, C3, C2, hd (by exact HR.out), hd (HG.out.trans (below_all (below_drewN (Below.refl _ _) _) _))⟩
        case measure => simp [intOf]; omega
      · have hz := cmp_ge hc
        have C3 := hd (show h < b → qK K (f a) < qK K (f h) from fun _ => q2.2 hc)
        clear hc q1 q2 bh ba hgt C2 hh hw
        generalize cmpI (K (f h)) (K (f a)) = z at *
        obtain ⟨va, hva⟩ : ∃ x, f h = x := ⟨_, rfl⟩
        obtain ⟨vb', hvb⟩ : ∃ x, f a = x := ⟨_, rfl⟩
        rw [hva] at ch LSx
        rw [hvb] at ca LSx
        clear hva hvb
        go_wp2
        clear hh2
        go_quiet ((go_at_call 30; exact (LSx _).mono fun _ _ h => by obtain ⟨h1, m, h2⟩ := h; exact ⟨h1, _, h2⟩))
        clear LSx ch ca
        go_wp2
        go_roundw
        case rel => exact ⟨i, h, hi, hih, by omega, rfl, rfl, C1, C3, hd (by exact HR.out), hd (HG.out.trans (below_all (below_drewN (Below.refl _ _) _) _))⟩
        case measure => simp [intOf]; omega
    · obtain rfl : i = j := by omega
      obtain ⟨i1, hi1⟩ : ∃ i1, i = i1 + 1 := ⟨i - 1, by have := HM.out; omega⟩
      have w1 : IntKind.i64.wrap ((i : Int) - 1) = (i1 : Int) := by rw [IntWalk.i64_in _ (by omega)]; omega
      have HI1 := hd hi1
      have ha1 : a ≤ i1 := by have := HM.out; omega
      have i1b : i1 < n := by omega
      have EP := hd (show SymPost (qK K) f (rotF f a m i) a b by
        have pre := PRE.out
        have c1 := C1.out
        have c2 := C2.out
        rw [HM.out] at pre c1 ⊢
        exact sym_one pre (by have := HM.out; omega) hj c1 c2)
      have HR0 := hd (show RowF wr base g n cd (rotF f a m (a + 1)) by
        rw [rot_no f a m (a + 1) (by have := HM.out; omega) (by have := HM.out; omega) (by have := HM.out; omega)]; exact HR.out)
      clear HR C1 C2 hi1 LS
      go_wp2
      go_loopw [13] (fun kv wr2 => ∃ k : Nat, a ≤ k ∧ k ≤ i1 ∧ kv = .int .i64 k ∧ Hid (RowF wr2 base g n cd (rotF f a m (k + 1))) ∧ Hid (w.grownBy wr2 (some g))) (fun kv _ => i1 - (intOf kv).toNat)
      case atStart => exact ⟨a, Nat.le_refl _, ha1, rfl, HR0, HG⟩
      case round =>
        clear HR0 HG
        obtain ⟨k, hk1, hk2, rfl, HR, HG⟩ := hrel
        by_cases hlt : k < i1
        · have k2 : (k : Int) < (i1 : Int) := Int.ofNat_lt.2 hlt
          obtain ⟨kk, hkk⟩ : ∃ kk, kk = k + 1 := ⟨_, rfl⟩
          have w2 : IntKind.i64.wrap ((k : Int) + 1) = (kk : Int) := by rw [IntWalk.i64_in _ (by omega)]; omega
          have kn : k < n := by omega
          have kkn : kk < n := by omega
          have kn2 : (k : Int) < (n : Int) := Int.ofNat_lt.2 kn
          have kkn2 : (kk : Int) < (n : Int) := Int.ofNat_lt.2 kkn
          have ne1 : ¬ k = kk := by omega
          have ne2 : ¬ (k : Int) = (kk : Int) := by omega
          have ne3 : ¬ kk = k := by omega
          have cx := HR.out.cell kn
          have cy := HR.out.cell kkn
          have fx := HR.out.frozen k
          have fy := HR.out.frozen kk
          have HS := hd (HR.out.swap kn kkn)
          have EF := hd (show rotF f a m (kk + 1) = fun x => if x = kk then rotF f a m (k + 1) k else if x = k then rotF f a m (k + 1) kk else rotF f a m (k + 1) x by
            have e := rot_up f a kk (by omega)
            rw [← HM.out, show kk - 1 = k by omega] at e
            rw [e, hkk])
          have HKK := hd hkk
          generalize rotF f a m (k + 1) k = va at *
          generalize rotF f a m (k + 1) kk = vb' at *
          clear hkk
          go_wp2
          go_region
          have hg9 : w.grownBy ((wr.setCell ⟨g, k, none⟩ (.int .i64 vb')).setCell ⟨g, kk, none⟩ (.int .i64 va)).drew (some g) := (HG.out.trans HS.out.2).trans (below_all ((Below.refl _ _).drew) _)
          have ho9 : RowF ((wr.setCell ⟨g, k, none⟩ (.int .i64 vb')).setCell ⟨g, kk, none⟩ (.int .i64 va)).drew base g n cd (rotF f a m (kk + 1)) := by rw [EF.out]; exact World.ownsRow.drew HS.out.1
          obtain ⟨w9, hw9⟩ : ∃ w9, w9 = ((wr.setCell ⟨g, k, none⟩ (.int .i64 vb')).setCell ⟨g, kk, none⟩ (.int .i64 va)).drew := ⟨_, rfl⟩
          rw [← hw9] at hg9 ho9 ⊢
          have HO9 := hd ho9
          have HG9 := hd hg9
          clear hw9 hg9 ho9 cx cy fx fy HS EF ne1 ne2 ne3 kkn2
          go_wp2
          go_roundw
          case rel => exact ⟨kk, by have := HKK.out; omega, by have := HKK.out; omega, by first | rfl | go_num, HO9, HG9⟩
          case measure => have := HKK.out; simp [intOf]; omega
        · obtain rfl : k = i1 := by omega
          have EQ := hd (show RowF wr base g n cd (rotF f a m i) by rw [HI1.out]; exact HR.out)
          clear HR
          go_wp2
          refine bodyPost_end (results_none rfl _ _ _) rfl ?_
          exact ⟨⟨_, rfl⟩, ⟨_, EQ.out, EP.out⟩, HG.out⟩
end Go.Proofs.Ytdkmloomlnljlaa
