/- BlockTimes of the program: a contract. -/
import Derived.Test.YtnfgnlhpjhndfaaProg
import Derived.Test.YtnfgnlhpjhndfaaRuns
import Derived.Test.YtnfgnlhpjhndfaaPeriods
import Derived.Test.YtnfgnlhpjhndfaaMaxMin
import Derived.Test.YtnfgnlhpjhndfaaApp
import Derived.Test.YtnfgnlhpjhndfaaBlockT
namespace Go.Proofs.Ytnfgnlhpjhndfaa.BlkI
open Go.RowKit Go.Proofs.Ytnfgnlhpjhndfaa Plain
set_option linter.unusedVariables false
set_option linter.unusedSimpArgs false
attribute [local go_sem ↓] Go.wp_at_zero Go.wp_at_succ

def M (rs hs : List Int) : List Int × Bool := if manyIn rs 1 12 0 1000 && manyIn hs 1 12 0 100000 then (timesT rs hs, true) else ([], false)
theorem len_ok (rs : List Int) (_ : ∀ x ∈ rs, I64 x) (_ : rs.length ≤ 1048576) (hs : List Int) (_ : ∀ x ∈ hs, I64 x) (_ : hs.length ≤ 1048576) : (M rs hs).1.length ≤ 1048576 := by
  unfold M
  split
  · rename_i h
    simp only [Bool.and_eq_true] at h
    obtain ⟨_, h1, _⟩ := many_bd h.1
    obtain ⟨_, h2, _⟩ := many_bd h.2
    have : hs.length * rs.length ≤ 12 * 12 := Nat.mul_le_mul (by omega) (by omega)
    simp only [timesT, List.length_map, List.length_range]
    omega
  · simp
/-- what is known of the numbers of one train at one block -/
theorem at_facts {rs hs : List Int} (h1 : manyIn rs 1 12 0 1000 = true) (h2 : manyIn hs 1 12 0 100000 = true) {i k : Nat} (hi : i < hs.length) (hk : k < rs.length) :
    (0 ≤ atT (hs.getD i 0) (aheadT rs hs i) rs k ∧ atT (hs.getD i 0) (aheadT rs hs i) rs k ≤ 300000) ∧ (0 ≤ aheadT rs hs i k ∧ aheadT rs hs i k ≤ 300000) ∧ (0 ≤ rs.getD k 0 ∧ rs.getD k 0 ≤ 1000) := by
  obtain ⟨a1, a2, a3⟩ := many_bd h1
  obtain ⟨b1, b2, b3⟩ := many_bd h2
  have hh := all_getD b3 i hi
  have := atT_bd (h := hs.getD i 0) (p := aheadT rs hs i) (rs := rs) (B := 100000 + 12000 * i) hh.1 (by omega) (fun j hj => aheadT_bd a3 b3 (by omega) i (by omega) j hj) a3 k (by omega)
  have := aheadT_bd a3 b3 (by omega) i (by omega) k hk
  have := all_getD a3 k hk
  omega

set_option maxHeartbeats 2000000 in
theorem impl_any (w : World) (v0 : Value) (rs : List Int) (i0 : ∀ x ∈ rs, I64 x) (b0 : rs.length ≤ 1048576) (s0 : Sl w 1 v0 rs.length (rs.map vi)) (v1 : Value) (hs : List Int) (i1 : ∀ x ∈ hs, I64 x) (b1 : hs.length ≤ 1048576) (s1 : Sl w 1 v1 hs.length (hs.map vi)) :
    Calls Try.prog 7 #[v0, v1] w (OutL 2 1 (M rs hs).1.length ((M rs hs).1.map vi) (fun u => .tuple #[u, .bool (M rs hs).2]) w) := by
  have A1 := hd (fun w' h => areRuns_any v0 rs w' (s0.below h))
  have A2 := hd (fun w' h => areMany_any v1 hs 1 12 0 100000 w' (s1.below h))
  obtain ⟨Ar, cr, rfl, hcr, hr⟩ := s0
  obtain ⟨Ah, ch, rfl, hch, hh⟩ := s1
  cases h1 : manyIn rs 1 12 0 1000 with
  | false =>
    have H := hd (show M rs hs = ([], false) by rw [M, h1]; rfl)
    go_enter Try.func7, Try.ntmps7
    go_wp2_with (go_at_call 11; refine (A1.out _ (Below.refl _ _)).mono ?_; rintro e w' ⟨rfl, rfl⟩)
    go_ret2
    rw [H.out]
    exact ⟨_, rfl, World.ownsRow_nil _ _ _ _, Below.refl _ _⟩
  | true =>
    cases h2 : manyIn hs 1 12 0 100000 with
    | false =>
      have H := hd (show M rs hs = ([], false) by rw [M, h1, h2]; rfl)
      go_enter Try.func7, Try.ntmps7
      go_wp2_with (first | (go_at_call 11; refine (A1.out _ (Below.refl _ _)).mono ?_; rintro e w' ⟨rfl, rfl⟩) | (go_at_call 12; refine (A2.out _ (Below.refl _ _)).mono ?_; rintro e w' ⟨rfl, rfl⟩))
      go_ret2
      rw [H.out]
      exact ⟨_, rfl, World.ownsRow_nil _ _ _ _, Below.refl _ _⟩
    | true =>
      have H := hd (show M rs hs = (partT rs hs (hs.length * rs.length), true) by rw [M, h1, h2]; rfl)
      have F := hd (fun i k hi hk => at_facts h1 h2 (i := i) (k := k) hi hk)
      obtain ⟨n1, n2, n3⟩ := many_bd h1
      obtain ⟨m1, m2, m3⟩ := many_bd h2
      have Z := hd (mixT_zero (rs := rs) (hs := hs))
      have NX := hd (fun i => mixT_next (rs := rs) (hs := hs) (i := i))
      have ST := hd (fun i k h => mixT_set (rs := rs) (hs := hs) (i := i) (k := k) h)
      have GT := hd (fun i k h => mixT_get (rs := rs) (hs := hs) (i := i) (k := k) (j := k) h)
      have ML := hd (fun i k => mixT_len rs hs i k)
      have CT := hd (fun i k h => cellT_at (rs := rs) (hs := hs) (i := i) (k := k) h)
      clear n3 m3 i0 i1
      generalize hn : rs.length = n at *
      generalize hm : hs.length = m at *
      have Hn := hd hn
      have Hm := hd hm
      clear hn hm
      go_enter Try.func7, Try.ntmps7
      go_wp2_with (first
        | (go_at_call 11; refine (A1.out _ (Below.refl _ _)).mono ?_; rintro e w' ⟨rfl, rfl⟩)
        | (go_at_call 12; refine (A2.out _ (Below.refl _ _)).mono ?_; rintro e w' ⟨rfl, rfl⟩)
        | (at_make; go_must (refine wpList_make_int _ rfl _ rfl _ _ n rfl rfl (by omega) ?_); intro w1 ho2 hb1))
      clear A1 A2 h1 h2
      have ho1 := own_below (World.ownsRow_made (size := 1) w #[] 0 (Nat.le_refl _) (by unfold maxLen; omega) rfl (e := 2)) hb1
      have hd0 := dj_new (World.ownsRow_made (size := 1) w #[] 0 (Nat.le_refl _) (by unfold maxLen; omega) rfl (e := 2)) ho2
      have hB0 : Below w.heap.size w w1 := below_tr hb1 ((Below.refl _ _).alloc (Nat.le_refl _) _)
      have ho2' := own_mono ho2 (show w.heap.size ≤ _ by simp)
      clear ho2 hb1
      rw [show (w.alloc (.cells #[] 2)).heap.size = w.heap.size + 1 by simp] at ho2' hd0
      have Hout := hd ho1; have Hah := hd ho2'; have HD := hd hd0; have HB := hd hB0
      clear ho1 ho2' hd0 hB0
      go_loopw [6, 26] (fun out ix wr => ∃ i : Nat, i ≤ m ∧ ix = .int .i64 i ∧ wr.ownsRow w.heap.size 2 1 out (i * n) ((partT rs hs (i * n)).map vi) ∧ wr.ownsRow w.heap.size 2 1 (.slice (some ⟨w.heap.size + 1, 0, none⟩) n n) n ((mixT rs hs i 0).map vi) ∧ Dj (.slice (some ⟨w.heap.size + 1, 0, none⟩) n n) out ∧ Below w.heap.size w wr) (fun _ ix _ => m - (intOf ix).toNat)
      case atStart =>
        refine ⟨0, by omega, rfl, by simpa [partT] using Hout.out, ?_, dj_symm HD.out, HB.out⟩
        have := Hah.out
        rw [Z.out]
        simpa [vi] using this
      case round =>
        obtain ⟨i, hi, rfl, ho, ha, hdj, hB⟩ := hrel
        clear Hout Hah HD HB
        by_cases hlt : i < m
        · obtain ⟨bb, off, rfl, hc⟩ := (hh.below hB).int hlt
          have Hh := hd hh; have Ho := hd ho; have Ha := hd ha; have Hd := hd hdj; have HB := hd hB
          clear hh ho ha hdj hB
          go_wp2
          go_loopw [6, 9, 32] (fun out tv ix wr => ∃ k : Nat, k ≤ n ∧ ix = .int .i64 k ∧ tv = .int .i64 (atT (hs.getD i 0) (aheadT rs hs i) rs k) ∧ wr.ownsRow w.heap.size 2 1 out (i * n + k) ((partT rs hs (i * n + k)).map vi) ∧ wr.ownsRow w.heap.size 2 1 (.slice (some ⟨w.heap.size + 1, 0, none⟩) n n) n ((mixT rs hs i k).map vi) ∧ Dj (.slice (some ⟨w.heap.size + 1, 0, none⟩) n n) out ∧ Below w.heap.size w wr) (fun _ _ ix _ => n - (intOf ix).toNat)
          case atStart => exact ⟨0, by omega, rfl, by simp [atT], by simpa using Ho.out, Ha.out, Hd.out, HB.out⟩
          case round =>
            obtain ⟨k, hk, rfl, rfl, ho, ha, hdj, hB⟩ := hrel
            clear Ho Ha Hd HB hc
            by_cases hkn : k < n
            · obtain ⟨b2, off2, rfl, hc2⟩ := (hr.below hB).int hkn
              obtain ⟨⟨x1, x2⟩, ⟨p1, p2⟩, ⟨r1, r2⟩⟩ := F.out i k (by omega) hkn
              have hp0 : aheadT rs hs (i + 1) k = atT (hs.getD i 0) (aheadT rs hs i) rs (k + 1) := rfl
              have Hp := hd hp0
              clear hp0
              have hy : atT (hs.getD i 0) (aheadT rs hs i) rs (k + 1) = max (atT (hs.getD i 0) (aheadT rs hs i) rs k) (aheadT rs hs i k) + rs.getD k 0 := rfl
              have hcell := ha.cellAt k (by omega)
              have hfro := ha.frozenAt k
              have hz : ((mixT rs hs i k).map vi)[k]? = some (.int .i64 (aheadT rs hs i k)) := by rw [List.getElem?_map, GT.out i k hkn]; simp [vi]
              rw [hz] at hcell
              clear hz
              generalize atT (hs.getD i 0) (aheadT rs hs i) rs k = x at *
              generalize aheadT rs hs i k = q at *
              generalize rs.getD k 0 = r at *
              rw [← ite_max] at hy
              have Hy := hd hy
              have Hs := hd (ha.stored k (vi ((if x < q then q else x) + r)))
              have Ho := hd ho; have Hd := hd hdj; have HB := hd hB; have Hr := hd hr
              have Hok := hd (own_kept (u := .slice (some ⟨w.heap.size + 1, 0, none⟩) n n) Ho.out Hs.out.2 (dj_symm Hd.out))
              have hlen : i * n + k ≤ 1048576 := by
                have : i * n ≤ 12 * 12 := Nat.mul_le_mul (by omega) (by omega)
                omega
              clear hy ho ha hdj hB hr
              go_wp2_with (at_builtin; go_must (refine wpList_app_int _ _ _ rfl _ _ rfl w.heap.size (i * n + k) _ _ rfl Hok.out rfl _ rfl (by simp) hlen (Nat.le_trans HB.out.size (by simp)) ?_); intro v' w1 ho1 hg1 hap)
              go_roundw
              case rel =>
                refine ⟨k + 1, by omega, by go_num, by rw [Hy.out], ?_, ?_, hap _ (own_in Hs.out.1) Hd.out, below_row hg1 (HB.out.setCell (Nat.le_succ _) _) (own_row Ho.out (Nat.le_refl _))⟩
                · have e := partT_succ rs hs (i * n + k)
                  rw [CT.out i k hkn, Hy.out] at e
                  rw [← Nat.add_assoc, e, List.map_append]
                  exact ho1
                · have := own_kept Hs.out.1 hg1 Hd.out
                  rw [← ST.out i k hkn, Hp.out, Hy.out, List.map_set]
                  exact this
              case measure => simp [intOf]; omega
            · have e : k = n := by omega
              subst e
              go_wp2
              go_roundw
              case rel =>
                refine ⟨i + 1, by omega, by go_num, ?_, ?_, hdj, hB⟩
                · rw [Nat.add_mul, Nat.one_mul]; exact ho
                · rw [← NX.out i]; exact ha
              case measure => simp [intOf]; omega
        · have e : i = m := by omega
          subst e
          go_wp2
          go_ret2
          rw [H.out]
          exact ⟨_, rfl, by simpa [partT_len] using ho, hB⟩
end Go.Proofs.Ytnfgnlhpjhndfaa.BlkI
