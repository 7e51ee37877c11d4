/- The merge of the library's stable sort: a contract, by induction. -/
import Derived.Test.YtdkmloomlnljlaaProg
import Derived.Test.YtdkmloomlnljlaaSymA
import Derived.Test.YtdkmloomlnljlaaSymB
namespace Go.Proofs.Ytdkmloomlnljlaa
open Go.RowKit Plain
set_option linter.unusedVariables false
set_option linter.unusedSimpArgs false
attribute [local go_sem ↓] Go.wp_at_zero Go.wp_at_succ
theorem rot_in {f : Nat → Int} {s m e n : Nat} (h1 : s ≤ m) (h2 : m ≤ e) (h3 : e ≤ n) (hf : ∀ k, k < n → 0 ≤ f k ∧ f k < (n : Int)) (k : Nat) (hk : k < n) : 0 ≤ rotF f s m e k ∧ rotF f s m e k < (n : Int) := by
  rw [rotF]
  split
  · exact hf _ (by omega)
  · split
    · exact hf _ (by omega)
    · exact hf _ hk
theorem pre_left {Q : Int → Int} {f : Nat → Int} {a s b : Nat} (h : SymPre Q f a s b) (hs : s ≤ a ∨ b ≤ s) : SymPost Q f f a b := by
  refine sym_same fun i j h1 h2 h3 => ?_
  rcases hs with hs | hs
  · exact h.r i j (by omega) h2 h3
  · exact h.l i j h1 h2 (by omega)
set_option maxHeartbeats 16000000 in
set_option maxRecDepth 100000 in
theorem sym_any (K : Int → Int) (base g n cd bK : Nat) (n64 : n ≤ 64) (d : Nat) : ∀ (a m b : Nat) (f : Nat → Int) (w : World), b - a ≤ d → a < m → m < b → b ≤ n → (∀ k, k < n → 0 ≤ f k ∧ f k < (n : Int)) → SymPre (qK K) f a m b → RowF w base g n cd f → CmpOk K n g bK w →
    Calls Try.prog 38 #[.slice (some ⟨g, 0, none⟩) n cd, .int .i64 a, .int .i64 m, .int .i64 b, .func (.func 30) #[] #[.pointer (some ⟨bK, 0, none⟩)]] w (PartB K base g n cd f a b w) := by
  induction d with
  | zero => intro a m b f w h1 h2 h3; omega
  | succ d IH =>
  intro a m b f w hd1 ham hmb hb hf pre ho hc
  by_cases e1 : m = a + 1
  · exact symA_any K base g n cd bK f a m b e1 hmb hb n64 hf pre w ho hc
  by_cases e2 : b = m + 1
  · exact symB_any K base g n cd bK f a m b (by omega) e2 hb n64 hf pre w ho hc
  have HO := hd ho
  have HF := hd hf
  have PRE := hd pre
  have LS := hd hc
  have HIH := hd IH
  obtain ⟨d1, hdd⟩ : ∃ d, d = m - a := ⟨_, rfl⟩
  obtain ⟨d2, hdd2⟩ : ∃ d, d = b - m := ⟨_, rfl⟩
  have w0 : IntKind.i64.wrap ((m : Int) - (a : Int)) = (d1 : Int) := by rw [IntWalk.i64_in _ (by omega)]; omega
  have w9 : IntKind.i64.wrap ((b : Int) - (m : Int)) = (d2 : Int) := by rw [IntWalk.i64_in _ (by omega)]; omega
  have b0 : ((d1 : Int) == 1) = false := by simp; omega
  have b1 : ¬ (d1 : Int) = 1 := by omega
  have b2 : ¬ d1 = 1 := by omega
  have b3 : ((d2 : Int) == 1) = false := by simp; omega
  have b4 : ¬ (d2 : Int) = 1 := by omega
  have b5 : ¬ d2 = 1 := by omega
  obtain ⟨mid, hmid⟩ : ∃ mid, mid = (a + b) / 2 := ⟨_, rfl⟩
  have hmid2 : ((a : Int) + (b : Int)) / 2 = (mid : Int) := by omega
  obtain ⟨nn, hnn⟩ : ∃ nn, nn = mid + m := ⟨_, rfl⟩
  have w1 : IntKind.i64.wrap ((mid : Int) + (m : Int)) = (nn : Int) := by rw [IntWalk.i64_in _ (by omega)]; omega
  obtain ⟨p, hp⟩ : ∃ p, nn = p + 1 := ⟨nn - 1, by omega⟩
  have w2 : IntKind.i64.wrap ((nn : Int) - 1) = (p : Int) := by rw [IntWalk.i64_in _ (by omega)]; omega
  have RO := hd (fun F s e h1 h2 h3 w ho => rotate_any base g n cd F s m e h1 h2 h3 n64 (.func (.func 30) #[] #[.pointer (some ⟨bK, 0, none⟩)]) w ho)
  obtain ⟨s0, r0, hsr, k1, k2, k3, k4, k5, k6, k7, k8⟩ : ∃ s0 r0 : Nat, (mid < m ∧ b + s0 = nn ∧ r0 = mid ∨ ¬ mid < m ∧ s0 = a ∧ r0 = m) ∧ a ≤ s0 ∧ s0 ≤ r0 ∧ r0 ≤ m ∧ r0 ≤ mid ∧ nn ≤ b + s0 ∧ m + r0 ≤ nn ∧ (s0 = a ∨ nn = b + s0) ∧ (r0 = m ∨ nn = m + r0) := by
    by_cases h : mid < m
    · exact ⟨nn - b, mid, by omega, by omega, by omega, by omega, by omega, by omega, by omega, by omega, by omega⟩
    · exact ⟨a, m, by omega, by omega, by omega, by omega, by omega, by omega, by omega, by omega, by omega⟩
  have HMID := hd hmid
  have HNN := hd hnn
  have HP := hd hp
  have midb : mid < b := by omega
  have amid : a < mid := by omega
  have nn64 : nn ≤ 128 := by omega
  clear ho hf pre hc IH hdd hdd2 e1 e2 hmid hnn hp
  go_enter Try.func38, Try.ntmps38
  have K7 := hd k7
  have K8 := hd k8
  clear k7 k8
  rcases hsr with ⟨x1, x2, x3⟩ | ⟨x1, x2, x3⟩
  focus
    have w3 : IntKind.i64.wrap ((nn : Int) - (b : Int)) = (s0 : Int) := by rw [IntWalk.i64_in _ (by omega)]; omega
    have X2 := hd (rfl : s0 = s0)
    have X3 := hd x3
    clear x2 x3
    go_upto_region 32 with fail
    clear w3 x1
  rotate_left
  focus
    have X2 := hd x2
    have X3 := hd x3
    clear x2 x3
    go_upto_region 32 with fail
    clear x1
  all_goals
    clear w0 w9 b0 b1 b2 b3 b4 b5 hmid2 w1
    go_wp2
    clear w2
    go_loopw [20, 21] (fun iv jv wr => ∃ i j : Nat, s0 ≤ i ∧ i ≤ j ∧ j ≤ r0 ∧ iv = .int .i64 i ∧ jv = .int .i64 j ∧ Hid (i = s0 ∨ qK K (f (i - 1)) < qK K (f (nn - i))) ∧ Hid (j = r0 ∨ qK K (f (p - j)) < qK K (f j)) ∧ Hid (RowF wr base g n cd f) ∧ Hid (w.grownBy wr (some g))) (fun iv jv _ => (intOf jv).toNat - (intOf iv).toNat)
    case atStart => exact ⟨s0, r0, Nat.le_refl _, by omega, Nat.le_refl _, by first | rfl | rw [X2.out], by first | rfl | rw [X3.out], hd (.inl rfl), hd (.inl rfl), HO, hd (World.grownBy.refl _ _)⟩
    case round =>
      obtain ⟨i, j, hi, hij, hj, rfl, rfl, C1, C2, HR, HG⟩ := hrel
      rcases Nat.lt_or_ge i j with hlt | hge
      · have i2 : (i : Int) < (j : Int) := Int.ofNat_lt.2 hlt
        obtain ⟨h, hh⟩ : ∃ h, h = (i + j) / 2 := ⟨_, rfl⟩
        have hh2 : ((i : Int) + (j : Int)) / 2 = (h : Int) := by omega
        have hih : i ≤ h := by omega
        have hhj : h < j := by omega
        have hn : h < n := by omega
        have hn2 : (h : Int) < (n : Int) := Int.ofNat_lt.2 hn
        obtain ⟨pc, hpc⟩ : ∃ pc, pc = p - h := ⟨_, rfl⟩
        have hP := HP.out
        have pm : m ≤ pc := by omega
        have pb : pc < b := by omega
        have pn : pc < n := by omega
        have pn2 : (pc : Int) < (n : Int) := Int.ofNat_lt.2 pn
        have hw : IntKind.i64.wrap ((h : Int) + 1) = (h : Int) + 1 := IntWalk.i64_in _ (by omega)
        have hw2 : IntKind.i64.wrap ((p : Int) - (h : Int)) = (pc : Int) := by rw [IntWalk.i64_in _ (by omega)]; omega
        have ch := HR.out.cell hn
        have ca := HR.out.cell pn
        have bh := HF.out h hn
        have ba := HF.out pc pn
        have hgt : f h < f pc := PRE.out.x h pc (by omega) (by omega) pm pb
        have q1 := qK_lt (K := K) bh.1 hgt (by omega)
        have q2 := qK_ge (K := K) bh.1 hgt (by omega)
        have LSx := LS.out wr HG.out (f pc) (f h) ba.1 ba.2 bh.1 bh.2
        by_cases hc : K (f pc) < K (f h)
        · rw [cmp_lt hc] at LSx
          have C3 := hd (show h = r0 ∨ qK K (f (p - h)) < qK K (f h) from .inr (by rw [← hpc]; exact q1.2 hc))
          clear hc q1 q2 bh ba hgt C2 hh hw hpc hP pm pb
          obtain ⟨va, hva⟩ : ∃ x, f h = x := ⟨_, rfl⟩
          obtain ⟨vb', hvb⟩ : ∃ x, f pc = x := ⟨_, rfl⟩
          rw [hva] at ch LSx
          rw [hvb] at ca LSx
          clear hva hvb
          go_wp2
          clear hh2
          go_quiet ((go_at_call 30; exact (LSx _).mono fun _ _ h => by obtain ⟨h1, m, h2⟩ := h; exact ⟨h1, _, h2⟩))
          clear LSx ch ca hw2 pn pn2
          go_wp2
          go_roundw
          case rel => exact ⟨i, h, hi, hih, by omega, rfl, rfl, C1, C3, hd (by exact HR.out), hd (HG.out.trans (below_all (below_drewN (Below.refl _ _) _) _))⟩
          case measure => simp [intOf]; omega
        · have hz := cmp_ge hc
          have C3 := hd (show h + 1 = s0 ∨ qK K (f (h + 1 - 1)) < qK K (f (nn - (h + 1))) from .inr (by rw [show nn - (h + 1) = pc by omega]; exact q2.2 hc))
          clear hc q1 q2 bh ba hgt C1 hh hpc hP pm pb
          generalize cmpI (K (f pc)) (K (f h)) = z at *
          have hz2 : decide (z < 0) = false := by simpa using hz
          have hz3 : 0 ≤ z := by omega
          obtain ⟨va, hva⟩ : ∃ x, f h = x := ⟨_, rfl⟩
          obtain ⟨vb', hvb⟩ : ∃ x, f pc = x := ⟨_, rfl⟩
          rw [hva] at ch LSx
          rw [hvb] at ca LSx
          clear hva hvb
          go_wp2
          clear hh2
          go_quiet ((go_at_call 30; exact (LSx _).mono fun _ _ h => by obtain ⟨h1, m, h2⟩ := h; exact ⟨h1, _, h2⟩))
          clear LSx ch ca hw2 pn pn2
          go_wp2
          go_roundw
          case rel => exact ⟨h + 1, j, by omega, by omega, hj, by go_num, rfl, C3, C2, hd (by exact HR.out), hd (HG.out.trans (below_all (below_drewN (Below.refl _ _) _) _))⟩
          case measure => simp [intOf]; omega
      · obtain rfl : i = j := by omega
        obtain ⟨e, he⟩ : ∃ e, e = nn - i := ⟨_, rfl⟩
        have w4 : IntKind.i64.wrap ((nn : Int) - (i : Int)) = (e : Int) := by rw [IntWalk.i64_in _ (by omega)]; omega
        have MID := hd (show SymMid (qK K) f a m b mid i e from ⟨by omega, by omega, by omega, by omega, by have := HNN.out; omega, fun h1 h2 => by
          have := K7.out
          rcases C1.out with h | h
          · omega
          · rw [he]; exact h, fun h1 h2 => by
          have := K8.out
          have := HP.out
          rcases C2.out with h | h
          · omega
          · rw [show e - 1 = p - i by omega]; exact h⟩)
        have m1 : a ≤ i := by omega
        have m2 : i ≤ m := by omega
        have m3 : m ≤ e := by omega
        have m4 : e ≤ b := by omega
        have m5 : mid + m = i + e := MID.out.mid
        have M5 := hd m5
        have L1 := hd (sym_left PRE.out MID.out)
        have F1 := hd (fun k hk => rot_in (n := n) m2 m3 (Nat.le_trans m4 hb) HF.out k hk)
        clear C1 C2 he hij
        rcases Nat.lt_or_ge i m with x1 | x1
        focus
          rcases Nat.lt_or_ge m e with x2 | x2
          focus
            have x1' : (i : Int) < (m : Int) := Int.ofNat_lt.2 x1
            have x2' : (m : Int) < (e : Int) := Int.ofNat_lt.2 x2
            go_wp2_with fail
            go_at_call 39
            refine (RO.out f i e x1 x2 (Nat.le_trans m4 hb) wr HR.out).mono ?_
            rintro e' w1 ⟨⟨v, rfl⟩, h2, h3⟩
            have HR1 := hd h2
            have HG1 := hd (HG.out.trans h3)
            clear h2 h3 HR HG x1' x2'
          rotate_left
          focus
            have HR1 := hd (show RowF wr base g n cd (rotF f i m e) by rw [rot_no f i m e m2 m3 (by omega)]; exact HR.out)
            have HG1 := HG
            clear HR HG
            obtain ⟨w1, rfl⟩ : ∃ w1, w1 = wr := ⟨_, rfl⟩
            have x3 : ¬ m < e := by omega
        rotate_left 2
        focus
          have HR1 := hd (show RowF wr base g n cd (rotF f i m e) by rw [rot_no f i m e m2 m3 (by omega)]; exact HR.out)
          have HG1 := HG
          clear HR HG
          obtain ⟨w1, rfl⟩ : ∃ w1, w1 = wr := ⟨_, rfl⟩
          have x3 : ¬ i < m := by omega
        all_goals
          obtain ⟨G, hG⟩ : ∃ G, rotF f i m e = G := ⟨_, rfl⟩
          rw [hG] at HR1 L1 F1
          have HGE := hd hG
          clear hG
          by_cases y1 : a < i ∧ i < mid
          focus
            obtain ⟨y1, y2⟩ := y1
            go_wp2_with fail
            go_at_call 38
            refine (HIH.out a i mid G w1 (by omega) y1 y2 (by omega) F1.out L1.out HR1.out (LS.out.grown HG1.out)).mono ?_
            rintro e' w2 ⟨⟨v, rfl⟩, ⟨G1, r2, p2⟩, h3⟩
            have HR2 := hd r2
            have HP2 := hd p2
            have HG2 := hd (HG1.out.trans h3)
            clear r2 p2 h3 HR1 HG1
          rotate_left
          focus
            have HP2 := hd (pre_left L1.out (show i ≤ a ∨ mid ≤ i by omega))
            obtain ⟨G1, hG1⟩ : ∃ G1, G1 = G := ⟨_, rfl⟩
            have HR2 := hd (show RowF w1 base g n cd G1 by rw [hG1]; exact HR1.out)
            have HP2 := hd (show SymPost (qK K) G G1 a mid by rw [hG1]; exact HP2.out)
            have HG2 := HG1
            clear HR1 HG1 hG1
            obtain ⟨w2, rfl⟩ : ∃ w2, w2 = w1 := ⟨_, rfl⟩
            rcases Nat.lt_or_ge a i with y2 | y2
            focus
              have y3 : ¬ i < mid := by omega
            rotate_left
            focus
              have y3 : ¬ a < i := by omega
          all_goals
            have F2 := hd (fun k hk => post_in HP2.out (show mid ≤ n by omega) F1.out k hk)
            have L2 := hd (sym_right PRE.out MID.out (g := G1) (fun x hx => by rw [HP2.out.out x (.inr hx), HGE.out]))
            by_cases z1 : mid < e ∧ e < b
            focus
              obtain ⟨z1, z2⟩ := z1
              go_wp2_with fail
              go_at_call 38
              refine (HIH.out mid e b G1 w2 (by omega) z1 z2 hb F2.out L2.out HR2.out (LS.out.grown HG2.out)).mono ?_
              rintro e' w3 ⟨⟨v, rfl⟩, ⟨G2, r2, p2⟩, h3⟩
              have HR3 := hd r2
              have HP3 := hd p2
              have HG3 := hd (HG2.out.trans h3)
              clear r2 p2 h3 HR2 HG2
            rotate_left
            focus
              have HP3 := hd (pre_left L2.out (show e ≤ mid ∨ b ≤ e by omega))
              obtain ⟨G2, hG2⟩ : ∃ G2, G2 = G1 := ⟨_, rfl⟩
              have HR3 := hd (show RowF w2 base g n cd G2 by rw [hG2]; exact HR2.out)
              have HP3 := hd (show SymPost (qK K) G1 G2 mid b by rw [hG2]; exact HP3.out)
              have HG3 := HG2
              clear HR2 HG2 hG2
              rcases Nat.lt_or_ge mid e with z2 | z2
              focus
                have z3 : ¬ e < b := by omega
              rotate_left
              focus
                have z3 : ¬ mid < e := by omega
            all_goals
              have EP := hd (sym_join PRE.out MID.out (show SymPost (qK K) (rotF f i m e) G1 a mid by rw [HGE.out]; exact HP2.out) HP3.out)
              clear HP2 HP3 L1 L2 F1 F2 MID PRE HIH RO LS
              go_wp2
              refine bodyPost_end (results_none rfl _ _ _) rfl ?_
              exact ⟨⟨_, rfl⟩, ⟨_, HR3.out, EP.out⟩, HG3.out⟩
end Go.Proofs.Ytdkmloomlnljlaa
