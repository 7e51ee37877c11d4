/- The numbers of trips in order of their starts, up to 24: contracts of the stable sort, of sortedBy. -/
import Derived.Test.YtdkmloomlnljlaaProg
import Derived.Test.YtdkmloomlnljlaaSymC
import Derived.Test.YtdkmloomlnljlaaSortS
namespace Go.Proofs.Ytdkmloomlnljlaa
open Go.RowKit Plain
set_option linter.unusedVariables false
set_option linter.unusedSimpArgs false
attribute [local go_sem ↓] Go.wp_at_zero Go.wp_at_succ
theorem insertN_any (g n cd a bK : Nat) (ha : a ≤ 64) (w : World) :
    Calls Try.prog 37 #[.slice (some ⟨g, 0, none⟩) n cd, .int .i64 a, .int .i64 a, .func (.func 30) #[] #[.pointer (some ⟨bK, 0, none⟩)]] w fun r w' => (∃ v, r = .returned v) ∧ w' = w := by
  have w0 : IntKind.i64.wrap ((a : Int) + 1) = (a : Int) + 1 := IntWalk.i64_in _ (by omega)
  have h1 : ¬ (a : Int) + 1 < (a : Int) := by omega
  go_enter Try.func37, Try.ntmps37
  go_wp2
  go_loopw [8] (fun iv wr => iv = .int .i64 ((a : Int) + 1) ∧ wr = w) (fun _ _ => 0)
  case atStart => exact ⟨rfl, rfl⟩
  case round =>
    obtain ⟨rfl, hw⟩ := hrel
    subst hw
    go_wp2
    refine bodyPost_end (results_none rfl _ _ _) rfl ?_
    exact ⟨⟨_, rfl⟩, rfl⟩
theorem upTo_mk (n : Nat) : upTo n = mkL n (fun k => (k : Int)) := rfl
set_option maxHeartbeats 8000000 in
theorem stable24_any (l : List Q4) (ht : tripsB l = true) (A : Option Addr) (n cap bT bK : Nat) (hn : l.length = n) (n20 : 20 ≤ n) (n24 : n ≤ 24) (w : World) (g cd base : Nat) (ho : w.ownsRow base 2 1 (.slice (some ⟨g, 0, none⟩) n cd) n ((upTo n).map vi))
    (hk : KeyB w bT bK A n cap) (hr : Rd w 4 A n (q4s l)) (e1 : bT ≠ g) (e2 : bK ≠ g) (e3 : A.map (·.block) ≠ some g) :
    Calls Try.prog 33 #[.slice (some ⟨g, 0, none⟩) n cd, .int .i64 n, .func (.func 30) #[] #[.pointer (some ⟨bK, 0, none⟩)]] w (SortB base g n cd (sortL (keyL l) (upTo n) n) w) := by
  have LS := hd (cmpOk_of l ht A n cap bT bK g hn w hk hr e1 e2 e3)
  have HO := hd (show RowF w base g n cd (fun k => (k : Int)) from ho)
  have hf0 : ∀ k, k < n → 0 ≤ ((fun k : Nat => (k : Int)) k) ∧ ((fun k : Nat => (k : Int)) k) < (n : Int) := fun k hk => ⟨by show (0 : Int) ≤ (k : Int); omega, by show (k : Int) < (n : Int); omega⟩
  have I1 := hd (insertA_any (keyL l) base g n cd bK (fun k => (k : Int)) 0 20 (by omega) n20 (by omega) hf0 (fun i j _ h _ => by show (i : Int) < (j : Int); omega) w HO.out LS.out)
  have HF0 := hd hf0
  clear ho hk hr ht e1 e2 e3 hf0
  go_enter Try.func33, Try.ntmps33
  go_upto_region 2 with fail
  go_loopw [7, 8] (fun av bv wr => (av = .int .i64 0 ∧ bv = .int .i64 20 ∧ wr = w) ∨ (av = .int .i64 20 ∧ bv = .int .i64 40 ∧ Hid (w.grownBy wr (some g)) ∧ Hid (∃ f1, RowF wr base g n cd f1 ∧ SymPost (qK (keyL l)) (fun k => (k : Int)) f1 0 20))) (fun _ bv _ => 40 - (intOf bv).toNat)
  case atStart => exact .inl ⟨rfl, rfl, rfl⟩
  case round =>
    rcases hrel with ⟨rfl, rfl, hw⟩ | ⟨rfl, rfl, HG, H1⟩
    · subst hw
      go_wp2_with fail
      go_at_call 37
      refine I1.out.mono ?_
      rintro e w2 ⟨⟨v, rfl⟩, h2, h3⟩
      have H2 := hd h2
      have H3 := hd h3
      clear h2 h3 I1
      go_wp2
      go_roundw
      case rel => exact .inr ⟨rfl, rfl, H3, H2⟩
      case measure => simp [intOf]
    · obtain ⟨f1, r1, p1⟩ := H1.out
      have HR1 := hd r1
      have HP1 := hd p1
      have F1 := hd (fun k hk => post_in p1 n20 HF0.out k hk)
      clear H1 r1 p1 I1
      have nn40 : ¬ (40 : Int) ≤ (n : Int) := by omega
      rcases Nat.lt_or_ge 20 n with h20 | h20
      · have I2 := hd (insertA_any (keyL l) base g n cd bK f1 20 n h20 (Nat.le_refl _) (by omega) F1.out (fun i j h1 h2 h3 => by
          rw [HP1.out.out i (.inr h1), HP1.out.out j (.inr (by omega))]
          show (i : Int) < (j : Int)
          omega) wr HR1.out (LS.out.grown HG.out))
        go_wp2_with fail
        go_at_call 37
        refine I2.out.mono ?_
        rintro e w2 ⟨⟨v, rfl⟩, ⟨f2, r2, p2⟩, h3⟩
        have HR2 := hd r2
        have HP2 := hd p2
        have HG2 := hd (HG.out.trans h3)
        have F2 := hd (fun k hk => post_in p2 (Nat.le_refl _) F1.out k hk)
        have PRE := hd (show SymPre (qK (keyL l)) f2 0 20 n from ⟨fun i j h1 h2 h3 => by
          rw [p2.out i (.inl (by omega)), p2.out j (.inl h3)]; exact HP1.out.srt i j h1 h2 h3, p2.srt, fun i j h1 h2 h3 h4 => by
          obtain ⟨x, _, x2, xe⟩ := HP1.out.mem i h1 h2
          obtain ⟨y, y1, y2, ye⟩ := p2.mem j h3 h4
          rw [p2.out i (.inl h2), xe, ye, HP1.out.out y (.inr y1)]
          show (x : Int) < (y : Int)
          omega⟩)
        clear r2 p2 h3 I2 HR1 HP1 F1 HG
        go_wp2
        go_loopw [6] (fun bv wr => (bv = .int .i64 20 ∧ wr = w2) ∨ (bv = .int .i64 40 ∧ Hid (SortB base g n cd (sortL (keyL l) (upTo n) n) w (.returned (.int .i64 0)) wr))) (fun bv _ => 40 - (intOf bv).toNat)
        case atStart => exact .inl ⟨rfl, rfl⟩
        case round =>
          rcases hrel with ⟨rfl, hw2⟩ | ⟨rfl, HS⟩
          · subst hw2
            have hlt : (20 : Int) < (n : Int) := by omega
            go_wp2
            go_loopw [7, 8] (fun av bv wr2 => av = .int .i64 0 ∧ bv = .int .i64 40 ∧ wr2 = wr) (fun _ _ _ => 0)
            case atStart => exact ⟨rfl, rfl, rfl⟩
            case round =>
              obtain ⟨rfl, rfl, hw3⟩ := hrel
              subst hw3
              go_wp2_with fail
              go_at_call 38
              refine (sym_any (keyL l) base g n cd bK (by omega) n 0 20 n f2 _ (by omega) (by omega) h20 (Nat.le_refl _) F2.out PRE.out HR2.out (LS.out.grown HG2.out)).mono ?_
              rintro e w4 ⟨⟨v, rfl⟩, ⟨f3, r3, p3⟩, h4⟩
              have HS := hd (show SortB base g n cd (sortL (keyL l) (upTo n) n) w (.returned (.int .i64 0)) w4 from ⟨⟨_, rfl⟩, by
                rw [← sorted_is (keyL l) (show n ≤ 64 by omega) (fun k hk => post_in p3 (Nat.le_refl _) F2.out k hk) (fun i j h1 h2 => p3.srt i j (Nat.zero_le _) h1 h2)]
                exact r3, HG2.out.trans h4⟩)
              clear r3 p3 h4 HR2 HP2 F2 PRE HG2
              go_wp2
              go_roundw
              case rel => exact .inr ⟨rfl, HS⟩
              case measure => simp [intOf]
          · go_wp2
            refine bodyPost_end (results_none rfl _ _ _) rfl ?_
            exact ⟨⟨_, rfl⟩, HS.out.2.1, HS.out.2.2⟩
      · obtain rfl : n = 20 := by omega
        go_wp2_with fail
        go_at_call 37
        refine (insertN_any g 20 cd 20 bK (by omega) wr).mono ?_
        rintro e w2 ⟨⟨v, rfl⟩, hw⟩
        subst hw
        have HS := hd (show RowF w2 base g 20 cd f1 from HR1.out)
        have EQ := hd (sorted_is (keyL l) (show 20 ≤ 64 by omega) F1.out (fun i j h1 h2 => HP1.out.srt i j (Nat.zero_le _) h1 h2))
        clear HR1 HP1 F1
        go_wp2
        go_loopw [6] (fun bv wr => bv = .int .i64 20 ∧ wr = w2) (fun _ _ => 0)
        case atStart => exact ⟨rfl, rfl⟩
        case round =>
          obtain ⟨rfl, hw2⟩ := hrel
          subst hw2
          go_wp2
          refine bodyPost_end (results_none rfl _ _ _) rfl ?_
          exact ⟨⟨_, rfl⟩, by rw [← EQ.out]; exact HS.out, HG.out⟩
set_option maxHeartbeats 2000000 in
theorem stableU_any (l : List Q4) (ht : tripsB l = true) (A : Option Addr) (n cap bT bK : Nat) (hn : l.length = n) (n1 : 1 ≤ n) (n24 : n ≤ 24) (w : World) (g cd base : Nat) (ho : w.ownsRow base 2 1 (.slice (some ⟨g, 0, none⟩) n cd) n ((upTo n).map vi))
    (hk : KeyB w bT bK A n cap) (hr : Rd w 4 A n (q4s l)) (e1 : bT ≠ g) (e2 : bK ≠ g) (e3 : A.map (·.block) ≠ some g) :
    Calls Try.prog 29 #[.slice (some ⟨g, 0, none⟩) n cd, .func (.func 30) #[] #[.pointer (some ⟨bK, 0, none⟩)]] w (SortB base g n cd (sortL (keyL l) (upTo n) n) w) := by
  rcases Nat.lt_or_ge n 20 with h | h
  · exact stable_any l ht A n cap bT bK hn n1 (by omega) w g cd base (upTo n) ho (inL_upTo n) hk hr e1 e2 e3
  have S := hd (stable24_any l ht A n cap bT bK hn h n24 w g cd base ho hk hr e1 e2 e3)
  clear ho hk hr ht e1 e2 e3
  go_enter Try.func29, Try.ntmps29
  go_wp2_with fail
  go_at_call 33
  refine S.out.mono ?_
  rintro e w2 ⟨⟨v, rfl⟩, h2, h3⟩
  have H2 := hd h2
  have H3 := hd h3
  clear h2 h3 S
  go_wp2
  refine bodyPost_end (results_none rfl _ _ _) rfl ?_
  exact ⟨⟨_, rfl⟩, H2.out, H3.out⟩
set_option maxHeartbeats 2000000 in
theorem sorted24_any (l : List Q4) (ht : tripsB l = true) (A : Option Addr) (n cap bT : Nat) (hn : l.length = n) (n1 : 1 ≤ n) (n24 : n ≤ 24) (w : World) (hc : w.cell? ⟨bT, 0, none⟩ = some (.slice A n cap)) (hr : Rd w 4 A n (q4s l)) :
    Calls Try.prog 20 #[.int .i64 n, .func (.func 21) #[] #[.pointer (some ⟨bT, 0, none⟩)]] w fun r w' => ∃ u, r = .returned u ∧ w'.ownsRow w.heap.size 2 1 u n ((sortL (keyL l) (upTo n) n).map vi) ∧ Below w.heap.size w w' := by
  have hbT : bT < w.heap.size := block_lt_of_cell hc
  have hA : ∀ g, w.heap.size ≤ g → A.map (·.block) ≠ some g := fun g hg e => by
    obtain ⟨b, off, _, _, _, _, rfl, _, c0, _⟩ := hr.q4 (show 0 < n by omega)
    have := block_lt_of_cell c0
    simp only [Option.map_some, Option.some.injEq] at e
    simp only at this
    omega
  have HC := hd hc
  have HR := hd hr
  have HAb := hd hA
  have ST := hd (fun bK w g cd base ho hk hr e1 e2 e3 => stableU_any l ht A n cap bT bK hn n1 n24 w g cd base ho hk hr e1 e2 e3)
  clear hc hr hA ht hn
  go_enter Try.func20, Try.ntmps20
  go_wp2_with fail
  go_at_call 28
  obtain ⟨W, hW⟩ : ∃ W, W = w.alloc (.cells #[.func (.func 21) #[] #[.pointer (some ⟨bT, 0, none⟩)]] 44) := ⟨_, rfl⟩
  have hk1 : W.cell? ⟨w.heap.size, 0, none⟩ = some (.func (.func 21) #[] #[.pointer (some ⟨bT, 0, none⟩)]) := by rw [hW]; exact (World.cell?_alloc_new ..).trans rfl
  have hb1 : Below w.heap.size w W := by rw [hW]; exact (Below.refl _ _).alloc (Nat.le_refl _) _
  have hs1 : w.heap.size < W.heap.size := by rw [hW]; simp
  rw [← hW]
  clear hW
  refine (counting_any n (by omega) W).mono ?_
  rintro e w2 ⟨u, rfl, ho, hb2⟩
  obtain ⟨g, cd, rfl, hg, _⟩ := own_form ho n1
  have hB2 := below_tr hb2 hb1
  have S := ST.out w.heap.size w2 g cd W.heap.size ho ⟨below_at hB2 HC.out, below_at hb2 hk1⟩ (HR.out.below hB2) (by omega) (by omega) (HAb.out g (by omega))
  have S := hd S
  have HB2 := hd hB2
  have HW := hd (show w.heap.size ≤ W.heap.size by omega)
  have HGg := hd (show w.heap.size ≤ g by omega)
  clear ho hb2 hB2 hk1 hb1 hs1 hg ST
  go_wp2_with fail
  go_at_call 29
  refine S.out.mono ?_
  rintro e w3 ⟨⟨v, rfl⟩, h2, h3⟩
  have H2 := hd h2
  have H3 := hd h3
  clear h2 h3 S
  go_wp2
  go_ret
  exact ⟨_, rfl, own_mono H2.out HW.out, below_row H3.out HB2.out (fun k e => by cases e; exact HGg.out)⟩
end Go.Proofs.Ytdkmloomlnljlaa
