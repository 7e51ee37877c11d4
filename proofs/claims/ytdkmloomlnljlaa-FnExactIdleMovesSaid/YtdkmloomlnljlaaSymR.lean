/- Blocks of a row change their places, as the library's stable sort does it: contracts. -/
import Derived.Test.YtdkmloomlnljlaaProg
import Derived.Test.YtdkmloomlnljlaaSortI
import Derived.Test.YtdkmloomlnljlaaSymT
namespace Go.Proofs.Ytdkmloomlnljlaa
open Go.RowKit Plain
set_option linter.unusedVariables false
set_option linter.unusedSimpArgs false
attribute [local go_sem ↓] Go.wp_at_zero Go.wp_at_succ
/-- a row of the call's own holds the first n values of a function -/
def RowF (w : World) (base g n cd : Nat) (f : Nat → Int) : Prop := w.ownsRow base 2 1 (.slice (some ⟨g, 0, none⟩) n cd) n ((mkL n f).map vi)
theorem RowF.cell {w : World} {base g n cd : Nat} {f : Nat → Int} (h : RowF w base g n cd f) {k : Nat} (hk : k < n) : w.cell? ⟨g, k, none⟩ = some (.int .i64 (f k)) := by
  rw [World.ownsRow.cellAt h k (by omega), List.getElem?_map, mkL_at f hk]; rfl
theorem RowF.frozen {w : World} {base g n cd : Nat} {f : Nat → Int} (h : RowF w base g n cd f) (m : Nat) : w.frozen? ⟨g, m, none⟩ = false := by
  rcases h.2 with ⟨h5, _⟩ | ⟨g', cap', cur, h5, _, h6, _⟩
  · cases h5
  · cases h5
    exact frozen_of_row w g m cur _ h6
theorem RowF.swap {w : World} {base g n cd : Nat} {f : Nat → Int} (h : RowF w base g n cd f) {j k : Nat} (hj : j < n) (hk : k < n) :
    RowF ((w.setCell ⟨g, j, none⟩ (.int .i64 (f k))).setCell ⟨g, k, none⟩ (.int .i64 (f j))) base g n cd (fun x => if x = k then f j else if x = j then f k else f x) ∧ w.grownBy ((w.setCell ⟨g, j, none⟩ (.int .i64 (f k))).setCell ⟨g, k, none⟩ (.int .i64 (f j))) (some g) := by
  have q1 := World.ownsRow.stored h j (.int .i64 (f k))
  have q2 := q1.1.stored k (.int .i64 (f j))
  have e : (((mkL n f).map vi).set j (.int .i64 (f k))).set k (.int .i64 (f j)) = (mkL n (fun x => if x = k then f j else if x = j then f k else f x)).map vi := by
    rw [← mkL_set _ hk, ← mkL_set _ hj, List.map_set, List.map_set]; rfl
  rw [e] at q2
  exact ⟨q2.1, q1.2.trans q2.2⟩
set_option maxHeartbeats 4000000 in
theorem swapRange_any (base g n cd : Nat) (f : Nat → Int) (a b c : Nat) (hab : a + c ≤ b) (hb : b + c ≤ n) (n64 : n ≤ 64) (cmp : Value) (w : World) (ho : RowF w base g n cd f) :
    Calls Try.prog 40 #[.slice (some ⟨g, 0, none⟩) n cd, .int .i64 a, .int .i64 b, .int .i64 c, cmp] w fun r w' =>
      (∃ v, r = .returned v) ∧ RowF w' base g n cd (swF f a b c) ∧ w.grownBy w' (some g) := by
  have HO := hd (show RowF w base g n cd (swF f a b 0) by rw [swF_zero]; exact ho)
  have c64 : c ≤ 64 := by omega
  clear ho
  go_enter Try.func40, Try.ntmps40
  go_wp2
  go_loopw [10] (fun iv wr => ∃ i : Nat, i ≤ c ∧ iv = .int .i64 i ∧ Hid (RowF wr base g n cd (swF f a b i)) ∧ Hid (w.grownBy wr (some g))) (fun iv _ => c - (intOf iv).toNat)
  case atStart => exact ⟨0, by omega, rfl, HO, hd (World.grownBy.refl _ _)⟩
  case round =>
    obtain ⟨i, hi, rfl, HI, HG⟩ := hrel
    by_cases hlt : i < c
    · have i2 : (i : Int) < (c : Int) := Int.ofNat_lt.2 hlt
      obtain ⟨ai, hai⟩ : ∃ ai, ai = a + i := ⟨_, rfl⟩
      obtain ⟨bi, hbi⟩ : ∃ bi, bi = b + i := ⟨_, rfl⟩
      have w1 : IntKind.i64.wrap ((a : Int) + (i : Int)) = (ai : Int) := by rw [IntWalk.i64_in _ (by omega), hai]; push_cast; rfl
      have w2 : IntKind.i64.wrap ((b : Int) + (i : Int)) = (bi : Int) := by rw [IntWalk.i64_in _ (by omega), hbi]; push_cast; rfl
      have an : ai < n := by omega
      have bn : bi < n := by omega
      have an2 : (ai : Int) < (n : Int) := Int.ofNat_lt.2 an
      have bn2 : (bi : Int) < (n : Int) := Int.ofNat_lt.2 bn
      have ne1 : ¬ ai = bi := by omega
      have ne2 : ¬ (ai : Int) = (bi : Int) := by omega
      have ne3 : ¬ bi = ai := by omega
      have ca := HI.out.cell an
      have cb := HI.out.cell bn
      have fa := HI.out.frozen ai
      have fb := HI.out.frozen bi
      have HS := hd (HI.out.swap an bn)
      have EF := hd (show swF f a b (i + 1) = fun x => if x = bi then swF f a b i ai else if x = ai then swF f a b i bi else swF f a b i x by
        rw [swF_step f a b i (by omega), ← hai, ← hbi]
        funext x
        by_cases h1 : x = ai
        · rw [if_pos h1, if_neg (by omega), if_pos h1]
        · rw [if_neg h1]
          by_cases h2 : x = bi
          · rw [if_pos h2, if_pos h2]
          · rw [if_neg h2, if_neg h2, if_neg h1])
      generalize swF f a b i ai = va at *
      generalize swF f a b i bi = vb' at *
      clear hai hbi an bn hab hb
      go_wp2
      go_region
      have hg9 : w.grownBy ((wr.setCell ⟨g, ai, none⟩ (.int .i64 vb')).setCell ⟨g, bi, none⟩ (.int .i64 va)).drew (some g) := (HG.out.trans HS.out.2).trans (below_all ((Below.refl _ _).drew) _)
      have ho9 : RowF ((wr.setCell ⟨g, ai, none⟩ (.int .i64 vb')).setCell ⟨g, bi, none⟩ (.int .i64 va)).drew base g n cd (swF f a b (i + 1)) := by rw [EF.out]; exact World.ownsRow.drew HS.out.1
      obtain ⟨w9, hw9⟩ : ∃ w9, w9 = ((wr.setCell ⟨g, ai, none⟩ (.int .i64 vb')).setCell ⟨g, bi, none⟩ (.int .i64 va)).drew := ⟨_, rfl⟩
      rw [← hw9] at hg9 ho9 ⊢
      have HO9 := hd ho9
      have HG9 := hd hg9
      clear hw9 hg9 ho9 ca cb fa fb HS EF
      go_wp2
      go_roundw
      case rel => exact ⟨i + 1, by omega, by go_num, HO9, HG9⟩
      case measure => simp [intOf]; omega
    · obtain rfl : i = c := by omega
      go_wp2
      refine bodyPost_end (results_none rfl _ _ _) rfl ?_
      exact ⟨⟨_, rfl⟩, HI.out, HG.out⟩
set_option maxHeartbeats 4000000 in
theorem rotate_any (base g n cd : Nat) (f : Nat → Int) (a m b : Nat) (ham : a < m) (hmb : m < b) (hb : b ≤ n) (n64 : n ≤ 64) (cmp : Value) (w : World) (ho : RowF w base g n cd f) :
    Calls Try.prog 39 #[.slice (some ⟨g, 0, none⟩) n cd, .int .i64 a, .int .i64 m, .int .i64 b, cmp] w fun r w' =>
      (∃ v, r = .returned v) ∧ RowF w' base g n cd (rotF f a m b) ∧ w.grownBy w' (some g) := by
  have HO := hd ho
  have SW := hd (fun F a b c h1 h2 w ho => swapRange_any base g n cd F a b c h1 h2 n64 cmp w ho)
  clear ho
  obtain ⟨i0, hi0⟩ : ∃ i0, i0 = m - a := ⟨_, rfl⟩
  obtain ⟨j0, hj0⟩ : ∃ j0, j0 = b - m := ⟨_, rfl⟩
  have w1 : IntKind.i64.wrap ((m : Int) - (a : Int)) = (i0 : Int) := by rw [IntWalk.i64_in _ (by omega)]; omega
  have w2 : IntKind.i64.wrap ((b : Int) - (m : Int)) = (j0 : Int) := by rw [IntWalk.i64_in _ (by omega)]; omega
  have HI0 := hd hi0
  have HJ0 := hd hj0
  clear hi0 hj0
  go_enter Try.func39, Try.ntmps39
  go_wp2_with fail
  clear w1 w2
  go_loopw [10, 11] (fun iv jv wr => ∃ (i j : Nat) (F : Nat → Int), 1 ≤ i ∧ 1 ≤ j ∧ a + i ≤ m ∧ m + j ≤ b ∧ iv = .int .i64 i ∧ jv = .int .i64 j ∧ Hid (RowF wr base g n cd F) ∧ Hid (rotF F (m - i) m (m + j) = rotF f a m b) ∧ Hid (w.grownBy wr (some g))) (fun iv jv _ => (intOf iv).toNat + (intOf jv).toNat)
  case atStart =>
    have h1 := HI0.out
    have h2 := HJ0.out
    exact ⟨i0, j0, f, by omega, by omega, by omega, by omega, rfl, rfl, HO, hd (by rw [show m - i0 = a by omega, show m + j0 = b by omega]), hd (World.grownBy.refl _ _)⟩
  case round =>
    obtain ⟨i, j, F, i1, j1, hai, hjb, rfl, rfl, HF, HE, HG⟩ := hrel
    obtain ⟨mi, hmi⟩ : ∃ mi, mi = m - i := ⟨_, rfl⟩
    have w1 : IntKind.i64.wrap ((m : Int) - (i : Int)) = (mi : Int) := by rw [IntWalk.i64_in _ (by omega)]; omega
    rcases Nat.lt_trichotomy i j with h | h | h
    · obtain ⟨k, hk⟩ : ∃ k, k = m + j - i := ⟨_, rfl⟩
      obtain ⟨mj, hmj⟩ : ∃ mj, mj = m + j := ⟨_, rfl⟩
      obtain ⟨ji, hji⟩ : ∃ ji, ji = j - i := ⟨_, rfl⟩
      have w2 : IntKind.i64.wrap ((m : Int) + (j : Int)) = (mj : Int) := by rw [IntWalk.i64_in _ (by omega)]; omega
      have w3 : IntKind.i64.wrap ((mj : Int) - (i : Int)) = (k : Int) := by rw [IntWalk.i64_in _ (by omega)]; omega
      have w4 : IntKind.i64.wrap ((j : Int) - (i : Int)) = (ji : Int) := by rw [IntWalk.i64_in _ (by omega)]; omega
      have b1 : ((i : Int) == (j : Int)) = false := by simp; omega
      have b2 : ¬ (i : Int) = (j : Int) := by omega
      have b3 : ¬ j < i := by omega
      have S := hd (SW.out F mi k i (by omega) (by omega) wr HF.out)
      have E := hd (show rotF (swF F mi k i) (m - i) m (m + ji) = rotF f a m b by rw [hmi, hk, hji, rot_right F m i j (by omega) h]; exact HE.out)
      have J1 := hd (show 1 ≤ ji ∧ m + ji ≤ b ∧ ji + i = j by omega)
      clear hk hmj hji hmi HE
      go_wp2_with fail
      go_at_call 40
      refine S.out.mono ?_
      rintro e w5 ⟨⟨v, rfl⟩, h2, h3⟩
      have H2 := hd h2
      have H3 := hd (HG.out.trans h3)
      clear h2 h3 S
      go_wp2_with fail
      go_roundw
      case rel => exact ⟨i, ji, _, i1, J1.out.1, hai, J1.out.2.1, rfl, rfl, H2, E, H3⟩
      case measure => have := J1.out; simp [intOf]; omega
    · subst h
      have S := hd (SW.out F mi m i (by omega) (by omega) wr HF.out)
      have E := hd (show swF F mi m i = rotF f a m b by rw [hmi, rot_even F m i (by omega)]; exact HE.out)
      clear hmi HE
      go_wp2_with fail
      go_at_call 40
      refine S.out.mono ?_
      rintro e w5 ⟨⟨v, rfl⟩, h2, h3⟩
      have H2 := hd h2
      have H3 := hd (HG.out.trans h3)
      clear h2 h3 S
      go_wp2
      refine bodyPost_end (results_none rfl _ _ _) rfl ?_
      exact ⟨⟨_, rfl⟩, by rw [← E.out]; exact H2.out, H3.out⟩
    · obtain ⟨ij, hij⟩ : ∃ ij, ij = i - j := ⟨_, rfl⟩
      have w4 : IntKind.i64.wrap ((i : Int) - (j : Int)) = (ij : Int) := by rw [IntWalk.i64_in _ (by omega)]; omega
      have b1 : ((i : Int) == (j : Int)) = false := by simp; omega
      have b2 : ¬ (i : Int) = (j : Int) := by omega
      have b3 : (j : Int) < (i : Int) := by omega
      have S := hd (SW.out F mi m j (by omega) (by omega) wr HF.out)
      have E := hd (show rotF (swF F mi m j) (m - ij) m (m + j) = rotF f a m b by rw [hmi, hij, rot_left F m i j (by omega) h]; exact HE.out)
      have J1 := hd (show 1 ≤ ij ∧ a + ij ≤ m ∧ ij + j = i by omega)
      clear hij hmi HE
      go_wp2_with fail
      go_at_call 40
      refine S.out.mono ?_
      rintro e w5 ⟨⟨v, rfl⟩, h2, h3⟩
      have H2 := hd h2
      have H3 := hd (HG.out.trans h3)
      clear h2 h3 S
      go_wp2_with fail
      go_roundw
      case rel => exact ⟨ij, j, _, J1.out.1, j1, J1.out.2.1, hjb, rfl, rfl, H2, E, H3⟩
      case measure => have := J1.out; simp [intOf]; omega
end Go.Proofs.Ytdkmloomlnljlaa
