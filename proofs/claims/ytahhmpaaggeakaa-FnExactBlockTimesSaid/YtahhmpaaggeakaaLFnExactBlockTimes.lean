/- Whatever runs and heads are given, the program's BlockTimes and the reference's return the same list and the same bool, leave the arguments alone and share no memory: the law returns true. No condition. -/
import Derived.Test.YtahhmpaaggeakaaRows
import Derived.Test.YtahhmpaaggeakaaRuns
import Derived.Test.YtahhmpaaggeakaaPeriods
import Derived.Test.YtahhmpaaggeakaaMaxMin
import Derived.Test.YtahhmpaaggeakaaApp
import Derived.Test.YtahhmpaaggeakaaBlockT
import Derived.Test.YtahhmpaaggeakaaOpen
namespace Go.Proofs.Ytahhmpaaggeakaa.lFnExactBlockTimes
open Go.ChangeShapes Go.WideShapes Go.ChangeAt Go.RowKit Go.Proofs.Ytahhmpaaggeakaa Plain
set_option linter.unusedVariables false
set_option linter.unusedSimpArgs false
attribute [local go_sem ↓] Go.wp_at_zero Go.wp_at_succ

def M (rs hs : List Int) : List Int × Bool := if manyIn rs 1 12 0 1000 && manyIn hs 1 12 0 100000 then (timesT rs hs, true) else ([], false)
theorem len_ok (rs : List Int) (_ : ∀ x ∈ rs, I64 x) (_ : rs.length ≤ 1048576) (hs : List Int) (_ : ∀ x ∈ hs, I64 x) (_ : hs.length ≤ 1048576) : (M rs hs).1.length ≤ 1048576 := by
  unfold M
  split
  · rename_i h
    simp only [Bool.and_eq_true] at h
    obtain ⟨_, h1, _⟩ := many_bd h.1
    obtain ⟨_, h2, _⟩ := many_bd h.2
    have : hs.length * rs.length ≤ 12 * 12 := Nat.mul_le_mul (by omega) (by omega)
    simp only [timesT, List.length_map, List.length_range]
    omega
  · simp
/-- what is known of the numbers of one train at one block -/
theorem at_facts {rs hs : List Int} (h1 : manyIn rs 1 12 0 1000 = true) (h2 : manyIn hs 1 12 0 100000 = true) {i k : Nat} (hi : i < hs.length) (hk : k < rs.length) :
    (0 ≤ atT (hs.getD i 0) (aheadT rs hs i) rs k ∧ atT (hs.getD i 0) (aheadT rs hs i) rs k ≤ 300000) ∧ (0 ≤ aheadT rs hs i k ∧ aheadT rs hs i k ≤ 300000) ∧ (0 ≤ rs.getD k 0 ∧ rs.getD k 0 ≤ 1000) := by
  obtain ⟨a1, a2, a3⟩ := many_bd h1
  obtain ⟨b1, b2, b3⟩ := many_bd h2
  have hh := all_getD b3 i hi
  have := atT_bd (h := hs.getD i 0) (p := aheadT rs hs i) (rs := rs) (B := 100000 + 12000 * i) hh.1 (by omega) (fun j hj => aheadT_bd a3 b3 (by omega) i (by omega) j hj) a3 k (by omega)
  have := aheadT_bd a3 b3 (by omega) i (by omega) k hk
  have := all_getD a3 k hk
  omega

set_option maxHeartbeats 2000000 in
theorem impl_any (w : World) (v0 : Value) (rs : List Int) (i0 : ∀ x ∈ rs, I64 x) (b0 : rs.length ≤ 1048576) (s0 : Sl w 1 v0 rs.length (rs.map vi)) (v1 : Value) (hs : List Int) (i1 : ∀ x ∈ hs, I64 x) (b1 : hs.length ≤ 1048576) (s1 : Sl w 1 v1 hs.length (hs.map vi)) :
    Calls Try.prog 30 #[v0, v1] w (OutL 2 1 (M rs hs).1.length ((M rs hs).1.map vi) (fun u => .tuple #[u, .bool (M rs hs).2]) w) := by
  have A1 := hd (fun w' h => areRuns_any v0 rs w' (s0.below h))
  have A2 := hd (fun w' h => areMany_any v1 hs 1 12 0 100000 w' (s1.below h))
  obtain ⟨Ar, cr, rfl, hcr, hr⟩ := s0
  obtain ⟨Ah, ch, rfl, hch, hh⟩ := s1
  cases h1 : manyIn rs 1 12 0 1000 with
  | false =>
    have H := hd (show M rs hs = ([], false) by rw [M, h1]; rfl)
    go_enter Try.func30, Try.ntmps30
    go_wp2_with (go_at_call 67; refine (A1.out _ (Below.refl _ _)).mono ?_; rintro e w' ⟨rfl, rfl⟩)
    go_ret2
    rw [H.out]
    exact ⟨_, rfl, World.ownsRow_nil _ _ _ _, Below.refl _ _⟩
  | true =>
    cases h2 : manyIn hs 1 12 0 100000 with
    | false =>
      have H := hd (show M rs hs = ([], false) by rw [M, h1, h2]; rfl)
      go_enter Try.func30, Try.ntmps30
      go_wp2_with (first | (go_at_call 67; refine (A1.out _ (Below.refl _ _)).mono ?_; rintro e w' ⟨rfl, rfl⟩) | (go_at_call 65; refine (A2.out _ (Below.refl _ _)).mono ?_; rintro e w' ⟨rfl, rfl⟩))
      go_ret2
      rw [H.out]
      exact ⟨_, rfl, World.ownsRow_nil _ _ _ _, Below.refl _ _⟩
    | true =>
      have H := hd (show M rs hs = (partT rs hs (hs.length * rs.length), true) by rw [M, h1, h2]; rfl)
      have F := hd (fun i k hi hk => at_facts h1 h2 (i := i) (k := k) hi hk)
      obtain ⟨n1, n2, n3⟩ := many_bd h1
      obtain ⟨m1, m2, m3⟩ := many_bd h2
      have Z := hd (mixT_zero (rs := rs) (hs := hs))
      have NX := hd (fun i => mixT_next (rs := rs) (hs := hs) (i := i))
      have ST := hd (fun i k h => mixT_set (rs := rs) (hs := hs) (i := i) (k := k) h)
      have GT := hd (fun i k h => mixT_get (rs := rs) (hs := hs) (i := i) (k := k) (j := k) h)
      have ML := hd (fun i k => mixT_len rs hs i k)
      have CT := hd (fun i k h => cellT_at (rs := rs) (hs := hs) (i := i) (k := k) h)
      clear n3 m3 i0 i1
      generalize hn : rs.length = n at *
      generalize hm : hs.length = m at *
      have Hn := hd hn
      have Hm := hd hm
      clear hn hm
      go_enter Try.func30, Try.ntmps30
      go_wp2_with (first
        | (go_at_call 67; refine (A1.out _ (Below.refl _ _)).mono ?_; rintro e w' ⟨rfl, rfl⟩)
        | (go_at_call 65; refine (A2.out _ (Below.refl _ _)).mono ?_; rintro e w' ⟨rfl, rfl⟩)
        | (at_make; go_must (refine wpList_make_int _ rfl _ rfl _ _ n rfl rfl (by omega) ?_); intro w1 ho2 hb1))
      clear A1 A2 h1 h2
      have ho1 := own_below (World.ownsRow_made (size := 1) w #[] 0 (Nat.le_refl _) (by unfold maxLen; omega) rfl (e := 2)) hb1
      have hd0 := dj_new (World.ownsRow_made (size := 1) w #[] 0 (Nat.le_refl _) (by unfold maxLen; omega) rfl (e := 2)) ho2
      have hB0 : Below w.heap.size w w1 := below_tr hb1 ((Below.refl _ _).alloc (Nat.le_refl _) _)
      have ho2' := own_mono ho2 (show w.heap.size ≤ _ by simp)
      clear ho2 hb1
      rw [show (w.alloc (.cells #[] 2)).heap.size = w.heap.size + 1 by simp] at ho2' hd0
      have Hout := hd ho1; have Hah := hd ho2'; have HD := hd hd0; have HB := hd hB0
      clear ho1 ho2' hd0 hB0
      go_loopw [6, 26] (fun out ix wr => ∃ i : Nat, i ≤ m ∧ ix = .int .i64 i ∧ wr.ownsRow w.heap.size 2 1 out (i * n) ((partT rs hs (i * n)).map vi) ∧ wr.ownsRow w.heap.size 2 1 (.slice (some ⟨w.heap.size + 1, 0, none⟩) n n) n ((mixT rs hs i 0).map vi) ∧ Dj (.slice (some ⟨w.heap.size + 1, 0, none⟩) n n) out ∧ Below w.heap.size w wr) (fun _ ix _ => m - (intOf ix).toNat)
      case atStart =>
        refine ⟨0, by omega, rfl, by simpa [partT] using Hout.out, ?_, dj_symm HD.out, HB.out⟩
        have := Hah.out
        rw [Z.out]
        simpa [vi] using this
      case round =>
        obtain ⟨i, hi, rfl, ho, ha, hdj, hB⟩ := hrel
        clear Hout Hah HD HB
        by_cases hlt : i < m
        · obtain ⟨bb, off, rfl, hc⟩ := (hh.below hB).int hlt
          have Hh := hd hh; have Ho := hd ho; have Ha := hd ha; have Hd := hd hdj; have HB := hd hB
          clear hh ho ha hdj hB
          go_wp2
          go_loopw [6, 9, 32] (fun out tv ix wr => ∃ k : Nat, k ≤ n ∧ ix = .int .i64 k ∧ tv = .int .i64 (atT (hs.getD i 0) (aheadT rs hs i) rs k) ∧ wr.ownsRow w.heap.size 2 1 out (i * n + k) ((partT rs hs (i * n + k)).map vi) ∧ wr.ownsRow w.heap.size 2 1 (.slice (some ⟨w.heap.size + 1, 0, none⟩) n n) n ((mixT rs hs i k).map vi) ∧ Dj (.slice (some ⟨w.heap.size + 1, 0, none⟩) n n) out ∧ Below w.heap.size w wr) (fun _ _ ix _ => n - (intOf ix).toNat)
          case atStart => exact ⟨0, by omega, rfl, by simp [atT], by simpa using Ho.out, Ha.out, Hd.out, HB.out⟩
          case round =>
            obtain ⟨k, hk, rfl, rfl, ho, ha, hdj, hB⟩ := hrel
            clear Ho Ha Hd HB hc
            by_cases hkn : k < n
            · obtain ⟨b2, off2, rfl, hc2⟩ := (hr.below hB).int hkn
              obtain ⟨⟨x1, x2⟩, ⟨p1, p2⟩, ⟨r1, r2⟩⟩ := F.out i k (by omega) hkn
              have hp0 : aheadT rs hs (i + 1) k = atT (hs.getD i 0) (aheadT rs hs i) rs (k + 1) := rfl
              have Hp := hd hp0
              clear hp0
              have hy : atT (hs.getD i 0) (aheadT rs hs i) rs (k + 1) = max (atT (hs.getD i 0) (aheadT rs hs i) rs k) (aheadT rs hs i k) + rs.getD k 0 := rfl
              have hcell := ha.cellAt k (by omega)
              have hfro := ha.frozenAt k
              have hz : ((mixT rs hs i k).map vi)[k]? = some (.int .i64 (aheadT rs hs i k)) := by rw [List.getElem?_map, GT.out i k hkn]; simp [vi]
              rw [hz] at hcell
              clear hz
              generalize atT (hs.getD i 0) (aheadT rs hs i) rs k = x at *
              generalize aheadT rs hs i k = q at *
              generalize rs.getD k 0 = r at *
              rw [← ite_max] at hy
              have Hy := hd hy
              have Hs := hd (ha.stored k (vi ((if x < q then q else x) + r)))
              have Ho := hd ho; have Hd := hd hdj; have HB := hd hB; have Hr := hd hr
              have Hok := hd (own_kept (u := .slice (some ⟨w.heap.size + 1, 0, none⟩) n n) Ho.out Hs.out.2 (dj_symm Hd.out))
              have hlen : i * n + k ≤ 1048576 := by
                have : i * n ≤ 12 * 12 := Nat.mul_le_mul (by omega) (by omega)
                omega
              clear hy ho ha hdj hB hr
              go_wp2_with (at_builtin; go_must (refine wpList_app_int _ _ _ rfl _ _ rfl w.heap.size (i * n + k) _ _ rfl Hok.out rfl _ rfl (by simp) hlen (Nat.le_trans HB.out.size (by simp)) ?_); intro v' w1 ho1 hg1 hap)
              go_roundw
              case rel =>
                refine ⟨k + 1, by omega, by go_num, by rw [Hy.out], ?_, ?_, hap _ (own_in Hs.out.1) Hd.out, below_row hg1 (HB.out.setCell (Nat.le_succ _) _) (own_row Ho.out (Nat.le_refl _))⟩
                · have e := partT_succ rs hs (i * n + k)
                  rw [CT.out i k hkn, Hy.out] at e
                  rw [← Nat.add_assoc, e, List.map_append]
                  exact ho1
                · have := own_kept Hs.out.1 hg1 Hd.out
                  rw [← ST.out i k hkn, Hp.out, Hy.out, List.map_set]
                  exact this
              case measure => simp [intOf]; omega
            · have e : k = n := by omega
              subst e
              go_wp2
              go_roundw
              case rel =>
                refine ⟨i + 1, by omega, by go_num, ?_, ?_, hdj, hB⟩
                · rw [Nat.add_mul, Nat.one_mul]; exact ho
                · rw [← NX.out i]; exact ha
              case measure => simp [intOf]; omega
        · have e : i = m := by omega
          subst e
          go_wp2
          go_ret2
          rw [H.out]
          exact ⟨_, rfl, by simpa [partT_len] using ho, hB⟩

theorem M_no {rs hs : List Int} {k : Nat} (hk : k < hs.length) (h : inR (hs.getD k 0) 0 100000 = false) : M rs hs = ([], false) := by
  have : hs.all (inR · 0 100000) = false := by
    rw [List.getD_eq_getElem?_getD, getD_of hk] at h
    exact all_false (p := (inR · 0 100000)) hk h
  rw [M, show manyIn hs 1 12 0 100000 = false by rw [manyIn, this]; simp, Bool.and_false]; rfl
theorem M_yes {rs hs : List Int} (h1 : manyIn rs 1 12 0 1000 = true) (hn : inR (hs.length : Int) 1 12 = true) (h : (hs.take hs.length).all (inR · 0 100000) = true) : M rs hs = (partT rs hs (hs.length * rs.length), true) := by
  obtain ⟨a, b⟩ := inR_iff.1 hn
  rw [List.take_length] at h
  rw [M, h1, manyIn, h, decide_eq_true a, decide_eq_true b]; rfl
theorem take_bd {hs : List Int} {i : Nat} (h : (hs.take i).all (inR · 0 100000) = true) {j : Nat} (hj : j < i) (hl : j < hs.length) : 0 ≤ hs.getD j 0 ∧ hs.getD j 0 ≤ 100000 := by
  have := all_getD h j (by simp; omega)
  simpa [List.getD_eq_getElem?_getD, hj] using this
/-- what is known of the numbers of one train at one block, the trains up to it being right -/
theorem at_facts2 {rs hs : List Int} (h1 : manyIn rs 1 12 0 1000 = true) {i k : Nat} (hi : i < hs.length) (h12 : hs.length ≤ 12) (h2 : (hs.take (i + 1)).all (inR · 0 100000) = true) (hk : k < rs.length) :
    (0 ≤ atT (hs.getD i 0) (aheadT rs hs i) rs k ∧ atT (hs.getD i 0) (aheadT rs hs i) rs k ≤ 300000) ∧ (0 ≤ aheadT rs hs i k ∧ aheadT rs hs i k ≤ 300000) ∧ (0 ≤ rs.getD k 0 ∧ rs.getD k 0 ≤ 1000) := by
  obtain ⟨a1, a2, a3⟩ := many_bd h1
  have hh := fun j (hj : j < i + 1) => take_bd h2 hj (by omega)
  have ha : ∀ j, j ≤ i → ∀ k, k < rs.length → 0 ≤ aheadT rs hs j k ∧ aheadT rs hs j k ≤ 100000 + 12000 * j := by
    intro j
    induction j with
    | zero => intro _ k hk; simp only [aheadT]; omega
    | succ j ih =>
      intro hj k hk
      have h3 := hh j (by omega)
      have := atT_bd (h := hs.getD j 0) (p := aheadT rs hs j) (rs := rs) (B := 100000 + 12000 * j) h3.1 (by omega) (fun q hq => ih (by omega) q hq) a3 (k + 1) (by omega)
      simp only [aheadT]
      omega
  have h3 := hh i (by omega)
  have := atT_bd (h := hs.getD i 0) (p := aheadT rs hs i) (rs := rs) (B := 100000 + 12000 * i) h3.1 (by omega) (fun j hj => ha i (by omega) j hj) a3 k (by omega)
  have := ha i (by omega) k hk
  have := all_getD a3 k hk
  omega

set_option maxHeartbeats 2000000 in
theorem spec_any (w : World) (v0 : Value) (rs : List Int) (i0 : ∀ x ∈ rs, I64 x) (b0 : rs.length ≤ 1048576) (s0 : Sl w 1 v0 rs.length (rs.map vi)) (v1 : Value) (hs : List Int) (i1 : ∀ x ∈ hs, I64 x) (b1 : hs.length ≤ 1048576) (s1 : Sl w 1 v1 hs.length (hs.map vi)) :
    Calls Try.prog 29 #[v0, v1] w (OutL 2 1 (M rs hs).1.length ((M rs hs).1.map vi) (fun u => .tuple #[u, .bool (M rs hs).2]) w) := by
  have A1 := hd (fun w' h => l05Runs_any v0 rs w' (s0.below h))
  obtain ⟨Ar, cr, rfl, hcr, hr⟩ := s0
  obtain ⟨Ah, ch, rfl, hch, hh⟩ := s1
  cases h1 : manyIn rs 1 12 0 1000 with
  | false =>
    have H := hd (show M rs hs = ([], false) by rw [M, h1]; rfl)
    go_enter Try.func29, Try.ntmps29
    go_wp2_with (go_at_call 66; refine (A1.out _ (Below.refl _ _)).mono ?_; rintro e w' ⟨rfl, rfl⟩)
    go_ret2
    rw [H.out]
    exact ⟨_, rfl, World.ownsRow_nil _ _ _ _, Below.refl _ _⟩
  | true =>
    cases h2 : inR (hs.length : Int) 1 12 with
    | false =>
      have H := hd (show M rs hs = ([], false) by
        rw [M, show manyIn hs 1 12 0 100000 = false by rw [manyIn, ← Bool.and_assoc]; rw [show (decide ((1 : Int) ≤ hs.length) && decide ((hs.length : Int) ≤ 12)) = false from h2]; rfl, Bool.and_false]; rfl)
      go_enter Try.func29, Try.ntmps29
      go_wp2_with (first | (go_at_call 66; refine (A1.out _ (Below.refl _ _)).mono ?_; rintro e w' ⟨rfl, rfl⟩) | (go_at_call 78; refine (l05Nodes_any _ _).mono ?_; rintro e w' ⟨rfl, rfl⟩))
      go_ret2
      rw [H.out]
      exact ⟨_, rfl, World.ownsRow_nil _ _ _ _, Below.refl _ _⟩
    | true =>
      have HY := hd (fun h => M_yes (rs := rs) (hs := hs) h1 h2 h)
      have HN := hd (fun k hk h => M_no (rs := rs) (hs := hs) (k := k) hk h)
      obtain ⟨n1, n2, n3⟩ := many_bd h1
      obtain ⟨m1, m2⟩ := inR_iff.1 h2
      have F := hd (fun i k hi h12 h hk => at_facts2 (hs := hs) h1 (i := i) (k := k) hi h12 h hk)
      have CT := hd (fun i k h => cellT_at (rs := rs) (hs := hs) (i := i) (k := k) h)
      have CP := hd (fun i k h => cellT_prev (rs := rs) (hs := hs) (i := i) (k := k) h)
      have Z0 := hd (fun k h0 hk => atT_zero (h := hs.getD 0 0) (rs := rs) h0 n3 k hk)
      clear n3 i0 i1
      generalize hn : rs.length = n at *
      generalize hm : hs.length = m at *
      have Hn := hd hn
      have Hm := hd hm
      clear hn hm
      go_enter Try.func29, Try.ntmps29
      go_wp2_with (first | (go_at_call 66; refine (A1.out _ (Below.refl _ _)).mono ?_; rintro e w' ⟨rfl, rfl⟩) | (go_at_call 78; refine (l05Nodes_any _ _).mono ?_; rintro e w' ⟨rfl, rfl⟩))
      clear A1 h1 h2
      have hstart := World.ownsRow_made (size := 1) w #[] 0 (Nat.le_refl _) (by unfold maxLen; omega) rfl (e := 2)
      go_loopw [7, 25] (fun out ix wr => ∃ i : Nat, i ≤ m ∧ ix = .int .i64 i ∧ Hid ((hs.take i).all (inR · 0 100000) = true) ∧ wr.ownsRow w.heap.size 2 1 out (i * n) ((partT rs hs (i * n)).map vi) ∧ Below w.heap.size w wr) (fun _ ix _ => m - (intOf ix).toNat)
      case atStart => exact ⟨0, by omega, rfl, by simp [Hid], by simpa [partT] using hstart, (Below.refl _ _).alloc (Nat.le_refl _) _⟩
      case round =>
        obtain ⟨i, hi, rfl, hall, ho, hB⟩ := hrel
        clear hstart
        by_cases hlt : i < m
        · by_cases hi0 : i = 0
          · subst hi0
            rw [show ((0 : Nat) : Int) = 0 from rfl]
            obtain ⟨bb, off, rfl, hc⟩ := (hh.below hB).int hlt
            rw [Nat.add_zero] at hc
            have hm0 : (0 : Int) < (m : Int) := by omega
            have hl : 0 < hs.length := by have := Hm.out; omega
            cases hin : inR (hs.getD 0 0) 0 100000 with
            | false =>
              have H := hd (HN.out 0 hlt hin)
              have HB := hd hB
              clear hh ho hB hl
              generalize hs.getD 0 0 = q at *
              go_wp2_with (go_at_call 62; refine (l00In_any _ _ _ _).mono ?_; rintro e w' ⟨rfl, rfl⟩)
              go_ret2
              rw [H.out]
              exact ⟨_, rfl, World.ownsRow_nil _ _ _ _, HB.out⟩
            | true =>
              have hin' := hin
              rw [List.getD_eq_getElem?_getD, getD_of hl] at hin'
              have Hall := hd (all_take_succ (p := (inR · 0 100000)) hall.out hl hin')
              have hq := inR_iff.1 hin
              have Hh := hd hh; have Ho := hd ho; have HB := hd hB; have HQ := hd hq
              have Hin := hd hin
              clear hh ho hB hl hin' hall hq
              rw [show hs.getD 0 0 = hs[0]?.getD 0 from List.getD_eq_getElem?_getD ..] at hin
              go_wp2_with (go_at_call 62; refine (l00In_any _ _ _ _).mono ?_; rintro e w' ⟨rfl, rfl⟩)
              go_loopw [7, 9, 40] (fun out tv ix wr => ∃ k : Nat, k ≤ n ∧ ix = .int .i64 k ∧ tv = .int .i64 (atT (hs.getD 0 0) (aheadT rs hs 0) rs k) ∧ wr.ownsRow w.heap.size 2 1 out (0 * n + k) ((partT rs hs (0 * n + k)).map vi) ∧ Below w.heap.size w wr) (fun _ _ ix _ => n - (intOf ix).toNat)
              case atStart => exact ⟨0, by omega, rfl, by simp [atT], by simpa using Ho.out, HB.out⟩
              case round =>
                obtain ⟨k, hk, rfl, rfl, ho, hB⟩ := hrel
                clear Ho HB hc hin
                by_cases hkn : k < n
                · obtain ⟨b2, off2, rfl, hc2⟩ := (hr.below hB).int hkn
                  obtain ⟨⟨x1, x2⟩, ⟨p1, p2⟩, ⟨r1, r2⟩⟩ := F.out 0 k hlt (by omega) Hall.out hkn
                  have hy : atT (hs.getD 0 0) (aheadT rs hs 0) rs (k + 1) = max (atT (hs.getD 0 0) (aheadT rs hs 0) rs k) (aheadT rs hs 0 k) + rs.getD k 0 := rfl
                  have hlen : 0 * n + k ≤ 1048576 := by
                    have : 0 * n ≤ 12 * 12 := Nat.mul_le_mul (by omega) (by omega)
                    omega
                  have hr' := hd hr
                  have e := partT_succ rs hs (0 * n + k)
                  rw [CT.out 0 k hkn] at e
                  have HE := hd e
                  clear hr e
                  have hz := Z0.out k (HQ.out).1 hkn
                  have hy2 : atT (hs.getD 0 0) (aheadT rs hs 0) rs (k + 1) = atT (hs.getD 0 0) (aheadT rs hs 0) rs k + rs.getD k 0 := hz
                  generalize atT (hs.getD 0 0) (aheadT rs hs 0) rs k = x at *
                  generalize rs.getD k 0 = r at *
                  have Hy := hd hy2; have Ho := hd ho; have HB := hd hB
                  clear hy hz hy2 ho hB
                  go_wp2_with (at_builtin; go_must (refine wpList_app_int _ _ _ rfl _ _ rfl w.heap.size (0 * n + k) _ _ rfl Ho.out rfl _ rfl (by simp) hlen (Nat.le_trans HB.out.size (by simp)) ?_); intro v' w1 ho1 hg1 hap)
                  go_roundw
                  case rel =>
                    refine ⟨k + 1, by omega, by go_num, by rw [Hy.out], ?_, below_row hg1 HB.out (own_row Ho.out (Nat.le_refl _))⟩
                    rw [← Nat.add_assoc, HE.out, Hy.out, List.map_append]
                    exact ho1
                  case measure => simp [intOf]; omega
                · have e : k = n := by omega
                  subst e
                  go_wp2
                  go_roundw
                  case rel =>
                    refine ⟨0 + 1, by omega, by go_num, Hall, ?_, hB⟩
                    rw [Nat.add_mul, Nat.one_mul]; exact ho
                  case measure => simp [intOf]; omega
          · obtain ⟨j, rfl⟩ : ∃ j, i = j + 1 := ⟨i - 1, by omega⟩
            rw [show ((j + 1 : Nat) : Int) = (j : Int) + 1 from by simp]
            obtain ⟨bb, off, rfl, hc⟩ := (hh.below hB).int hlt
            have hl : (j + 1) < hs.length := by have := Hm.out; omega
            cases hin : inR (hs.getD (j + 1) 0) 0 100000 with
            | false =>
              have H := hd (HN.out (j + 1) hlt hin)
              have HB := hd hB
              clear hh ho hB hl
              generalize hs.getD (j + 1) 0 = q at *
              go_wp2_with (go_at_call 62; refine (l00In_any _ _ _ _).mono ?_; rintro e w' ⟨rfl, rfl⟩)
              go_ret2
              rw [H.out]
              exact ⟨_, rfl, World.ownsRow_nil _ _ _ _, HB.out⟩
            | true =>
              have hin' := hin
              rw [List.getD_eq_getElem?_getD, getD_of hl] at hin'
              have Hall := hd (all_take_succ (p := (inR · 0 100000)) hall.out hl hin')
              have hq := inR_iff.1 hin
              have Hh := hd hh; have Ho := hd ho; have HB := hd hB; have HQ := hd hq
              have Hin := hd hin
              clear hh ho hB hl hin' hall hq
              rw [show hs.getD (j + 1) 0 = hs[(j + 1)]?.getD 0 from List.getD_eq_getElem?_getD ..] at hin
              go_wp2_with (go_at_call 62; refine (l00In_any _ _ _ _).mono ?_; rintro e w' ⟨rfl, rfl⟩)
              go_loopw [7, 9, 40] (fun out tv ix wr => ∃ k : Nat, k ≤ n ∧ ix = .int .i64 k ∧ tv = .int .i64 (atT (hs.getD (j + 1) 0) (aheadT rs hs (j + 1)) rs k) ∧ wr.ownsRow w.heap.size 2 1 out ((j + 1) * n + k) ((partT rs hs ((j + 1) * n + k)).map vi) ∧ Below w.heap.size w wr) (fun _ _ ix _ => n - (intOf ix).toNat)
              case atStart => exact ⟨0, by omega, rfl, by simp [atT], by simpa using Ho.out, HB.out⟩
              case round =>
                obtain ⟨k, hk, rfl, rfl, ho, hB⟩ := hrel
                clear Ho HB hc hin
                by_cases hkn : k < n
                · obtain ⟨b2, off2, rfl, hc2⟩ := (hr.below hB).int hkn
                  obtain ⟨⟨x1, x2⟩, ⟨p1, p2⟩, ⟨r1, r2⟩⟩ := F.out (j + 1) k hlt (by omega) Hall.out hkn
                  have hy : atT (hs.getD (j + 1) 0) (aheadT rs hs (j + 1)) rs (k + 1) = max (atT (hs.getD (j + 1) 0) (aheadT rs hs (j + 1)) rs k) (aheadT rs hs (j + 1) k) + rs.getD k 0 := rfl
                  have hlen : (j + 1) * n + k ≤ 1048576 := by
                    have : (j + 1) * n ≤ 12 * 12 := Nat.mul_le_mul (by omega) (by omega)
                    omega
                  have hr' := hd hr
                  have e := partT_succ rs hs ((j + 1) * n + k)
                  rw [CT.out (j + 1) k hkn] at e
                  have HE := hd e
                  clear hr e
                  obtain ⟨A, cap, rfl, hcap, hrd, hA⟩ := own_rd ho (by unfold maxLen; omega)
                  have hjl : j * n + k < (j + 1) * n + k := by rw [Nat.add_mul]; omega
                  obtain ⟨b3, off3, rfl, hc3⟩ := hrd.int hjl
                  have hv : (partT rs hs ((j + 1) * n + k)).getD (j * n + k) 0 = aheadT rs hs (j + 1) k := by
                    rw [List.getD_eq_getElem?_getD, partT_get hjl, CP.out j k hkn]; rfl
                  rw [hv] at hc3
                  clear hv hrd hA
                  generalize atT (hs.getD (j + 1) 0) (aheadT rs hs (j + 1)) rs k = x at *
                  generalize aheadT rs hs (j + 1) k = q at *
                  generalize rs.getD k 0 = r at *
                  have y1 : 0 ≤ max x q + r := by omega
                  have y2 : max x q + r ≤ 601000 := by omega
                  have e1 : (j : Int) * n + k = ((j * n + k : Nat) : Int) := by simp
                  have e2 : ((j : Int) * n + k).toNat = j * n + k := by omega
                  have e3 : 0 ≤ (j : Int) * n := by rw [← Int.natCast_mul]; omega
                  have e4 : (j : Int) * n ≤ 144 := by
                    have : j * n ≤ 12 * 12 := Nat.mul_le_mul (by omega) (by omega)
                    rw [← Int.natCast_mul]; omega
                  have e5 : (j : Int) * n + k < (((j + 1) * n + k : Nat) : Int) := by rw [e1]; omega
                  have Hy := hd hy; have Ho := hd ho; have HB := hd hB
                  clear hy ho hB e1
                  go_wp2_with (first
                    | (go_at_call 79; refine (l00Max_any _ _ _).mono ?_; rintro e w' ⟨rfl, rfl⟩)
                    | (at_builtin; go_must (refine wpList_app_int _ _ _ rfl _ _ rfl w.heap.size ((j + 1) * n + k) _ _ rfl Ho.out rfl _ rfl (by simp) hlen (Nat.le_trans HB.out.size (by simp)) ?_); intro v' w1 ho1 hg1 hap))
                  go_roundw
                  case rel =>
                    refine ⟨k + 1, by omega, by go_num, by rw [Hy.out], ?_, below_row hg1 HB.out (own_row Ho.out (Nat.le_refl _))⟩
                    rw [← Nat.add_assoc, HE.out, Hy.out, List.map_append]
                    exact ho1
                  case measure => simp [intOf]; omega
                · have e : k = n := by omega
                  subst e
                  go_wp2
                  go_roundw
                  case rel =>
                    refine ⟨(j + 1) + 1, by omega, by go_num, Hall, ?_, hB⟩
                    rw [Nat.add_mul, Nat.one_mul]; exact ho
                  case measure => simp [intOf]; omega
        · have e : i = m := by omega
          subst e
          have H := hd (HY.out (by have := Hm.out; rw [this] at *; exact hall.out))
          go_wp2
          go_ret2
          rw [H.out]
          exact ⟨_, rfl, by simpa [partT_len] using ho, hB⟩

set_option maxHeartbeats 2000000 in
set_option maxRecDepth 100000 in
theorem walk (w : World) (v0 : Value) (x0 : List Int) (i0 : ∀ x ∈ x0, I64 x) (s0 : Sl w 1 v0 x0.length (x0.map vi)) (v1 : Value) (x1 : List Int) (i1 : ∀ x ∈ x1, I64 x) (s1 : Sl w 1 v1 x1.length (x1.map vi)) :
    Calls Try.prog 6 #[v0, v1] w fun e w' => e = .returned (.bool true) ∧ Below w.heap.size w w' := by
  obtain ⟨A0, cap0, hw0, _, hr0⟩ := id s0
  have hv0 := hd hw0; clear hw0
  obtain ⟨A1, cap1, hw1, _, hr1⟩ := id s1
  have hv1 := hd hw1; clear hw1
  have hm0 := hr0.2.1
  have hm1 := hr1.2.1
  by_cases b0 : x0.length ≤ 1048576
  rotate_left
  · have e0 := hv0.out; subst e0
    unfold maxLen at hm0
    have hx' : ¬ ((x0.length : Int) ≤ 1048576) := by omega
    go_enter Try.func6, Try.ntmps6
    go_wp2
    go_ret
    exact ⟨rfl, Below.refl _ _⟩
  by_cases b1 : x1.length ≤ 1048576
  rotate_left
  · have e1 := hv1.out; subst e1
    have e0 := hv0.out; subst e0
    unfold maxLen at hm1
    have hx' : ¬ ((x1.length : Int) ≤ 1048576) := by omega
    have hx0 : (x0.length : Int) ≤ 1048576 := by omega
    go_enter Try.func6, Try.ntmps6
    go_wp2
    go_ret
    exact ⟨rfl, Below.refl _ _⟩
  have hx0 : (x0.length : Int) ≤ 1048576 := by omega
  have hx1 : (x1.length : Int) ≤ 1048576 := by omega
  have z0 := size_le b0
  have z1 := size_le b1
  have bg := len_ok x0 i0 b0 x1 i1 b1
  have zg := size_le bg
  have hB := Below.refl w.heap.size w
  clear hr0 hm0
  clear hr1 hm1
  have e0 := hv0.out; subst e0; clear hv0
  have e1 := hv1.out; subst e1; clear hv1
  go_enter Try.func6, Try.ntmps6
  go_wp2_with fail
  refine (toInt64S_any _ x0 _ (s0.below hB) b0).mono ?_; rintro e w1 ⟨s0_, rfl, ho_s0_, hb⟩
  replace ho_s0_ := own_mono ho_s0_ hB.size
  replace hB := below_tr hb hB
  clear hb
  go_wp2_with fail
  refine (toInt64S_any _ x1 _ (s1.below hB) b1).mono ?_; rintro e w2 ⟨s1_, rfl, ho_s1_, hb⟩
  have d_s0__s1_ := dj_new ho_s0_ ho_s1_
  replace ho_s0_ := own_below ho_s0_ hb
  replace ho_s1_ := own_mono ho_s1_ hB.size
  replace hB := below_tr hb hB
  clear hb
  go_wp2_with fail
  refine (spec_any _ _ x0 i0 b0 (own_sl ho_s0_ z0) _ x1 i1 b1 (own_sl ho_s1_ z1)).mono ?_; rintro e w3 ⟨w0, rfl, ho_w0, hb⟩
  have d_s0__w0 := dj_new ho_s0_ ho_w0
  have d_s1__w0 := dj_new ho_s1_ ho_w0
  replace ho_s0_ := own_below ho_s0_ hb
  replace ho_s1_ := own_below ho_s1_ hb
  replace ho_w0 := own_mono ho_w0 hB.size
  replace hB := below_tr hb hB
  clear hb
  clear ho_s0_ d_s0__s1_ d_s0__w0
  clear ho_s1_ d_s1__w0
  go_wp2_with fail
  refine (toInt64S_any _ x0 _ (s0.below hB) b0).mono ?_; rintro e w4 ⟨x0_, rfl, ho_x0_, hb⟩
  have d_w0_x0_ := dj_new ho_w0 ho_x0_
  replace ho_w0 := own_below ho_w0 hb
  replace ho_x0_ := own_mono ho_x0_ hB.size
  replace hB := below_tr hb hB
  clear hb
  go_wp2_with fail
  refine (toInt64S_any _ x1 _ (s1.below hB) b1).mono ?_; rintro e w5 ⟨x1_, rfl, ho_x1_, hb⟩
  have d_w0_x1_ := dj_new ho_w0 ho_x1_
  have d_x0__x1_ := dj_new ho_x0_ ho_x1_
  replace ho_w0 := own_below ho_w0 hb
  replace ho_x0_ := own_below ho_x0_ hb
  replace ho_x1_ := own_mono ho_x1_ hB.size
  replace hB := below_tr hb hB
  clear hb
  go_wp2_with fail
  refine (impl_any _ _ x0 i0 b0 (own_sl ho_x0_ z0) _ x1 i1 b1 (own_sl ho_x1_ z1)).mono ?_; rintro e w6 ⟨g0, rfl, ho_g0, hb⟩
  have d_w0_g0 := dj_new ho_w0 ho_g0
  have d_x0__g0 := dj_new ho_x0_ ho_g0
  have d_x1__g0 := dj_new ho_x1_ ho_g0
  replace ho_w0 := own_below ho_w0 hb
  replace ho_x0_ := own_below ho_x0_ hb
  replace ho_x1_ := own_below ho_x1_ hb
  replace ho_g0 := own_mono ho_g0 hB.size
  replace hB := below_tr hb hB
  clear hb
  go_wp2_with fail
  refine (eqInt64S_b _ _ _ _ _ (own_sl ho_g0 zg) (own_sl ho_w0 zg)).mono ?_; rintro e w7 ⟨rfl, hb⟩
  replace ho_w0 := own_below ho_w0 hb
  replace ho_x0_ := own_below ho_x0_ hb
  replace ho_x1_ := own_below ho_x1_ hb
  replace ho_g0 := own_below ho_g0 hb
  replace hB := below_tr hb hB
  clear hb
  go_wp2_with fail
  refine (toInt64S_any _ x0 _ (s0.below hB) b0).mono ?_; rintro e w8 ⟨c0_, rfl, ho_c0_, hb⟩
  have d_w0_c0_ := dj_new ho_w0 ho_c0_
  have d_x0__c0_ := dj_new ho_x0_ ho_c0_
  have d_x1__c0_ := dj_new ho_x1_ ho_c0_
  have d_g0_c0_ := dj_new ho_g0 ho_c0_
  replace ho_w0 := own_below ho_w0 hb
  replace ho_x0_ := own_below ho_x0_ hb
  replace ho_x1_ := own_below ho_x1_ hb
  replace ho_g0 := own_below ho_g0 hb
  replace ho_c0_ := own_mono ho_c0_ hB.size
  replace hB := below_tr hb hB
  clear hb
  go_wp2_with fail
  refine (eqInt64S_b _ _ x0 x0 _ (own_sl ho_x0_ z0) (own_sl ho_c0_ z0)).mono ?_; rintro e w9 ⟨rfl, hb⟩
  replace ho_w0 := own_below ho_w0 hb
  replace ho_x0_ := own_below ho_x0_ hb
  replace ho_x1_ := own_below ho_x1_ hb
  replace ho_g0 := own_below ho_g0 hb
  replace ho_c0_ := own_below ho_c0_ hb
  replace hB := below_tr hb hB
  clear hb
  clear ho_c0_ d_w0_c0_ d_x0__c0_ d_x1__c0_ d_g0_c0_
  go_wp2_with fail
  refine (toInt64S_any _ x1 _ (s1.below hB) b1).mono ?_; rintro e w10 ⟨c1_, rfl, ho_c1_, hb⟩
  have d_w0_c1_ := dj_new ho_w0 ho_c1_
  have d_x0__c1_ := dj_new ho_x0_ ho_c1_
  have d_x1__c1_ := dj_new ho_x1_ ho_c1_
  have d_g0_c1_ := dj_new ho_g0 ho_c1_
  replace ho_w0 := own_below ho_w0 hb
  replace ho_x0_ := own_below ho_x0_ hb
  replace ho_x1_ := own_below ho_x1_ hb
  replace ho_g0 := own_below ho_g0 hb
  replace ho_c1_ := own_mono ho_c1_ hB.size
  replace hB := below_tr hb hB
  clear hb
  go_wp2_with fail
  refine (eqInt64S_b _ _ x1 x1 _ (own_sl ho_x1_ z1) (own_sl ho_c1_ z1)).mono ?_; rintro e w11 ⟨rfl, hb⟩
  replace ho_w0 := own_below ho_w0 hb
  replace ho_x0_ := own_below ho_x0_ hb
  replace ho_x1_ := own_below ho_x1_ hb
  replace ho_g0 := own_below ho_g0 hb
  replace ho_c1_ := own_below ho_c1_ hb
  replace hB := below_tr hb hB
  clear hb
  clear ho_c1_ d_w0_c1_ d_x0__c1_ d_x1__c1_ d_g0_c1_
  go_wp2_with fail
  have hrow := own_row ho_x0_ (Nat.le_refl _)
  refine (markInt64S_any _ _ _ _ (1) _ ho_x0_ b0 (by omega) (by omega)).mono ?_; rintro e w12 ⟨rfl, ho', hg⟩
  replace ho_w0 := own_kept ho_w0 hg d_w0_x0_
  replace ho_x1_ := own_kept ho_x1_ hg (dj_symm d_x0__x1_)
  replace ho_g0 := own_kept ho_g0 hg (dj_symm d_x0__g0)
  replace ho_x0_ := ho'
  replace hB := below_row hg hB hrow
  clear hg hrow ho'
  go_wp2_with fail
  have hrow := own_row ho_x1_ (Nat.le_refl _)
  refine (markInt64S_any _ _ _ _ (1 + (x0.length : Int)) _ ho_x1_ b1 (by omega) (by omega)).mono ?_; rintro e w13 ⟨rfl, ho', hg⟩
  replace ho_w0 := own_kept ho_w0 hg d_w0_x1_
  replace ho_x0_ := own_kept ho_x0_ hg d_x0__x1_
  replace ho_g0 := own_kept ho_g0 hg (dj_symm d_x1__g0)
  replace ho_x1_ := ho'
  replace hB := below_row hg hB hrow
  clear hg hrow ho'
  clear ho_x0_ d_w0_x0_ d_x0__x1_ d_x0__g0
  clear ho_x1_ d_w0_x1_ d_x1__g0
  go_wp2_with fail
  refine (eqInt64S_b _ _ _ _ _ (own_sl ho_g0 zg) (own_sl ho_w0 zg)).mono ?_; rintro e w14 ⟨rfl, hb⟩
  replace ho_w0 := own_below ho_w0 hb
  replace ho_g0 := own_below ho_g0 hb
  replace hB := below_tr hb hB
  clear hb
  go_wp2_with fail
  have hrow := own_row ho_g0 (Nat.le_refl _)
  refine (markInt64S_any _ _ _ _ 1 _ ho_g0 bg (by omega) (by omega)).mono ?_; rintro e w15 ⟨rfl, ho', hg⟩
  replace ho_w0 := own_kept ho_w0 hg d_w0_g0
  replace ho_g0 := ho'
  replace hB := below_row hg hB hrow
  clear hg hrow ho'
  go_wp2_with fail
  refine (heldInt64S_b _ _ 1 _ (own_sl ho_g0 zg) bg (by omega) (by omega)).mono ?_; rintro e w16 ⟨rfl, hb⟩
  replace ho_w0 := own_below ho_w0 hb
  replace ho_g0 := own_below ho_g0 hb
  replace hB := below_tr hb hB
  clear hb
  go_wp2_with fail
  refine (toInt64S_any _ x0 _ (s0.below hB) b0).mono ?_; rintro e w17 ⟨t0_, rfl, ho_t0_, hb⟩
  have d_w0_t0_ := dj_new ho_w0 ho_t0_
  have d_g0_t0_ := dj_new ho_g0 ho_t0_
  replace ho_w0 := own_below ho_w0 hb
  replace ho_g0 := own_below ho_g0 hb
  replace ho_t0_ := own_mono ho_t0_ hB.size
  replace hB := below_tr hb hB
  clear hb
  go_wp2_with fail
  refine (toInt64S_any _ x1 _ (s1.below hB) b1).mono ?_; rintro e w18 ⟨t1_, rfl, ho_t1_, hb⟩
  have d_w0_t1_ := dj_new ho_w0 ho_t1_
  have d_g0_t1_ := dj_new ho_g0 ho_t1_
  have d_t0__t1_ := dj_new ho_t0_ ho_t1_
  replace ho_w0 := own_below ho_w0 hb
  replace ho_g0 := own_below ho_g0 hb
  replace ho_t0_ := own_below ho_t0_ hb
  replace ho_t1_ := own_mono ho_t1_ hB.size
  replace hB := below_tr hb hB
  clear hb
  go_wp2_with fail
  refine (impl_any _ _ x0 i0 b0 (own_sl ho_t0_ z0) _ x1 i1 b1 (own_sl ho_t1_ z1)).mono ?_; rintro e w19 ⟨h0, rfl, ho_h0, hb⟩
  have d_w0_h0 := dj_new ho_w0 ho_h0
  have d_g0_h0 := dj_new ho_g0 ho_h0
  have d_t0__h0 := dj_new ho_t0_ ho_h0
  have d_t1__h0 := dj_new ho_t1_ ho_h0
  replace ho_w0 := own_below ho_w0 hb
  replace ho_g0 := own_below ho_g0 hb
  replace ho_t0_ := own_below ho_t0_ hb
  replace ho_t1_ := own_below ho_t1_ hb
  replace ho_h0 := own_mono ho_h0 hB.size
  replace hB := below_tr hb hB
  clear hb
  go_wp2_with fail
  refine (eqInt64S_b _ _ _ _ _ (own_sl ho_h0 zg) (own_sl ho_w0 zg)).mono ?_; rintro e w20 ⟨rfl, hb⟩
  replace ho_w0 := own_below ho_w0 hb
  replace ho_g0 := own_below ho_g0 hb
  replace ho_t0_ := own_below ho_t0_ hb
  replace ho_t1_ := own_below ho_t1_ hb
  replace ho_h0 := own_below ho_h0 hb
  replace hB := below_tr hb hB
  clear hb
  go_wp2_with fail
  refine (heldInt64S_b _ _ 1 _ (own_sl ho_g0 zg) bg (by omega) (by omega)).mono ?_; rintro e w21 ⟨rfl, hb⟩
  replace ho_w0 := own_below ho_w0 hb
  replace ho_g0 := own_below ho_g0 hb
  replace ho_t0_ := own_below ho_t0_ hb
  replace ho_t1_ := own_below ho_t1_ hb
  replace ho_h0 := own_below ho_h0 hb
  replace hB := below_tr hb hB
  clear hb
  go_wp2_with fail
  go_ret
  exact ⟨rfl, hB⟩

theorem own : ownKnob Try.prog.godebug = none := by kernel_rfl
theorem laidOut : laidOutB Try.prog = true := by kernel_rfl

set_option maxRecDepth 100000 in
theorem lifted (os : Os) (started : os.Started) (H : Type) (enc : TypeId × Value → H) :
    ReturnsInHanded {} Try.checked os 6 .any (Rows.fnExactBlockTimesSpec.pre6 enc Try.prog Try.f6 Rows.fnExactBlockTimesRow.domain false) (Rows.fnExactBlockTimesSpec.post enc Try.prog Try.f6 false true false false) := by
  refine returnsInHanded_of_change (C := Try.checked) own started (by as_aux_lemma => kernel_rfl) Try.func6
    (ChangeSpec.witness6 (enc := enc) (C := Try.checked) false ⟨#[], #[.slice none 0 0, .slice none 0 0], []⟩ 8 (by as_aux_lemma => kernel_rfl) (by as_aux_lemma => kernel_rfl) (by as_aux_lemma => kernel_rfl) (by as_aux_lemma => kernel_rfl)) ?_
  intro W base args ds gs before hval0 hW hcnd _
  have hval : ∀ (j : Nat) t v, Try.f6.params[j]? = some t → args[j]? = some v → Value.okWide Try.prog W .any base t v := hval0
  have hW' := hW
  obtain ⟨p, q, hA0, hV, rfl, hfz, hnd⟩ := hW
  have hA : DataW.TrodAll enc Try.prog W 0 (fun _ => true) true Try.f6.params.toList args.toList ds p := hA0
  rw [Try.params6] at hA hval
  obtain ⟨v0, vs0, d0, ds0, p0, q0, hargs, rfl, rfl, h0, r0⟩ := trodAll_cons hA
  obtain ⟨v1, vs1, d1, ds1, p1, q1, rfl, rfl, rfl, h1, r1⟩ := trodAll_cons r0
  obtain ⟨rfl, rfl, rfl⟩ := trodAll_nil r1
  obtain rfl : args = #[v0, v1] := by cases args; simp_all
  obtain ⟨rfl, rfl⟩ := trodVars_none hV
  have k0 := h0
  have lt0 : ∀ x ∈ p0, x.block < W.heap.size := by obtain ⟨m, hm⟩ := k0; exact DataW.trod_lt m _ _ _ hm
  obtain ⟨s0, len0, cap0, rfl⟩ := okWide_slice Try.underlying22 (hval 0 22 v0 rfl rfl)
  obtain ⟨x0, _, i0, w0⟩ := arg_ints Try.underlying22 Try.underlying2 (by as_aux_lemma => kernel_rfl) h0
  have k1 := h1
  have lt1 : ∀ x ∈ p1, x.block < W.heap.size := by obtain ⟨m, hm⟩ := k1; exact DataW.trod_lt m _ _ _ hm
  obtain ⟨s1, len1, cap1, rfl⟩ := okWide_slice Try.underlying22 (hval 1 22 v1 rfl rfl)
  obtain ⟨x1, _, i1, w1⟩ := arg_ints Try.underlying22 Try.underlying2 (by as_aux_lemma => kernel_rfl) h1
  clear hA0 hval0
  refine (walk W _ x0 i0 w0 _ x1 i1 w1).mono fun e W' ⟨he, bel⟩ => ?_
  subst he
  exact ⟨_, rfl, _, _, _, [], _, [], hW', trodAll_mk1 (shut_bool Try.underlying4 _), (trodAll_cons_mk (Below.trod laidOut (by as_aux_lemma => kernel_rfl) (of_decide_eq_true (by as_aux_lemma => kernel_rfl)) k0 bel lt0) (trodAll_cons_mk (Below.trod laidOut (by as_aux_lemma => kernel_rfl) (of_decide_eq_true (by as_aux_lemma => kernel_rfl)) k1 bel lt1) (trodAll_mk0))), rfl, bel.frame _, fun h => by cases h⟩

/-- The given statement. -/
theorem proved : Rows.FnExactBlockTimesSaid :=
  OpenClaim.holds_of_wide 6 Try.f6 rfl rfl rfl rfl rfl rfl rfl ⟨rfl, rfl, rfl, rfl, rfl⟩ rfl rfl rfl rfl rfl (by kernel_rfl) Try.func6 (by kernel_rfl)
    (of_decide_eq_true (by kernel_rfl)) (by unfold Func.isWrapper; first | (rw [if_pos (by decide +kernel)]; kernel_rfl) | (rw [if_neg (by decide +kernel)]; exact ⟨rfl, rfl⟩))
    (fun os started H enc _ => lifted os started H enc)
#print axioms proved

end Go.Proofs.Ytahhmpaaggeakaa.lFnExactBlockTimes
