/- The least changes of the program: a contract. -/
import Derived.Test.YtkdjeneogclocaaChgA
import Derived.Test.YtkdjeneogclocaaBits
import Derived.StillTailTactics
namespace Go.Proofs.Ytkdjeneogclocaa
open Go.RowKit Plain
set_option linter.unusedVariables false
set_option linter.unusedSimpArgs false
attribute [local go_sem ↓] Go.wp_at_zero Go.wp_at_succ
theorem info_rows : (Try.prog.info? 25).map (fun i => (i.zero, i.size, i.bytes)) = some (some (.slice none 0 0), 1, 24) := by kernel_rfl
theorem size_rows : (Try.prog.info? 25).map (·.size) = some 1 := by kernel_rfl
theorem wpList_make_rows {ops : Array Oper} {rest : List Oper} {o : Oper} {a : Act} {Q : Exit → Act → World → Prop} (w : World) (hg : o.guard = none) (l : Operand) (hop : o.op = Op.makeSlice 42 l l)
    (k : IntKind) (L : Int) (n : Nat) (hl : a.eval l = .int k L) (hL : L = (n : Int)) (hn : n ≤ 4096)
    (h : ∀ w', w'.ownsRow w.heap.size 25 1 (.slice (some ⟨w.heap.size, 0, none⟩) n n) n (List.replicate n (.slice none 0 0)) → Below w.heap.size w w' → wpList Try.prog ops Q rest (a.put o.dst (.slice (some ⟨w.heap.size, 0, none⟩) n n)) w') :
    wpList Try.prog ops Q (o :: rest) a w := by
  obtain ⟨i0, hi, hz0, hz1, hz2⟩ := info_parts info_rows
  refine wpList_make_full w hg l l 42 hop w.heap.size 25 i0 (.slice none 0 0) 1 Try.underlying42 hi hz0 hz1 k k L L n hl hl hL hL (by rw [hz2]; omega) (size_le (by omega)) (Nat.le_refl _) ?_
  intro w' h1 h2
  rw [made_one _ _ rfl] at h1
  exact h w' h1 (below_none h2)
/-- the rows of the table that are full -/
def RowsAt (w : World) (g H : Nat) (c : Nat → Nat → Int) (n lo Z : Nat) (us : List Value) : Prop :=
  ∀ e, lo ≤ e → e < Z → ∃ b cap, b ≠ g ∧ b < H ∧ us[e]? = some (.slice (some ⟨b, 0, none⟩) n cap) ∧ n ≤ cap ∧ ∀ j, j < n → w.cell? ⟨b, j, none⟩ = some (.int .i64 (Rr c n e j))
theorem RowsAt.keep {w w' : World} {g H : Nat} {c : Nat → Nat → Int} {n lo Z : Nat} {us : List Value} {h : Nat} (hr : RowsAt w g H c n lo Z us) (hg : w.grownBy w' (some h)) (hh : H ≤ h ∨ h = g) : RowsAt w' g H c n lo Z us := by
  intro e h1 h2
  obtain ⟨b, cap, h3, h4, h5, h6, h7⟩ := hr e h1 h2
  exact ⟨b, cap, h3, h4, h5, h6, fun j hj => hg.cell (h7 j hj) (by simp only [ne_eq, Option.some.injEq]; omega)⟩
theorem RowsAt.keepO {w w' : World} {g H : Nat} {c : Nat → Nat → Int} {n lo Z : Nat} {us : List Value} {row : Option Nat} (hr : RowsAt w g H c n lo Z us) (hg : w.grownBy w' row) (hh : ∀ h, row = some h → H ≤ h) : RowsAt w' g H c n lo Z us := by
  intro e h1 h2
  obtain ⟨b, cap, h3, h4, h5, h6, h7⟩ := hr e h1 h2
  exact ⟨b, cap, h3, h4, h5, h6, fun j hj => hg.cell (h7 j hj) (fun e => by have := hh b e.symm; omega)⟩
theorem RowsAt.below {w w' : World} {g H : Nat} {c : Nat → Nat → Int} {n lo Z : Nat} {us : List Value} (hr : RowsAt w g H c n lo Z us) (hb : Below w.heap.size w w') : RowsAt w' g H c n lo Z us := by
  intro e h1 h2
  obtain ⟨b, cap, h3, h4, h5, h6, h7⟩ := hr e h1 h2
  exact ⟨b, cap, h3, h4, h5, h6, fun j hj => below_at hb (h7 j hj)⟩
theorem RowsAt.set {w : World} {g H H' : Nat} {c : Nat → Nat → Int} {n lo Z d : Nat} {us : List Value} (v : Value) (hr : RowsAt w g H c n lo Z us) (hd : d < lo) (hH : H ≤ H') : RowsAt w g H' c n lo Z (us.set d v) := by
  intro e h1 h2
  obtain ⟨b, cap, h3, h4, h5, h6, h7⟩ := hr e h1 h2
  exact ⟨b, cap, h3, by omega, by rw [List.getElem?_set, if_neg (by omega)]; exact h5, h6, h7⟩
theorem RowsAt.add {w : World} {g H H' : Nat} {c : Nat → Nat → Int} {n d Z : Nat} {us : List Value} (hr : RowsAt w g H c n (d + 1) Z us) (hH : H < H') (hHg : H ≠ g) (hu : us[d]? = some (.slice (some ⟨H, 0, none⟩) n n)) (hc : ∀ j, j < n → w.cell? ⟨H, j, none⟩ = some (.int .i64 (Rr c n d j))) : RowsAt w g H' c n d Z us := by
  intro e h1 h2
  by_cases he : e = d
  · subst he
    exact ⟨H, n, hHg, hH, hu, Nat.le_refl _, hc⟩
  · obtain ⟨b, cap, h3, h4, h5, h6, h7⟩ := hr e (by omega) h2
    exact ⟨b, cap, h3, by omega, h5, h6, h7⟩
theorem bit_or (d t : Nat) (h : d < 64) (ht : t < 6) : ∃ J : Nat, J = 2 ^ t ∧ (2 : Int) ^ t = (J : Int) ∧ IntKind.i64.wrap (J : Int) = (J : Int) ∧ bits .or .i64 (d : Int) (J : Int) = ((d ||| 2 ^ t : Nat) : Int) := by
  have hJ : 2 ^ t ≤ 2 ^ 5 := Nat.pow_le_pow_right (by omega) (by omega)
  have e1 : (2 : Int) ^ t = ((2 ^ t : Nat) : Int) := by simp
  generalize 2 ^ t = J at *
  exact ⟨J, rfl, e1, IntWalk.i64_in _ (by omega), i64_or _ _ (by omega) (by omega)⟩
def lenV : Value → Nat
  | .slice _ n _ => n
  | _ => 0
theorem lenV_own {w : World} {base e size n : Nat} {v : Value} {xs : List Value} (h : w.ownsRow base e size v n xs) (hn : n ≤ maxLen) : lenV v = n := by
  obtain ⟨A, cap, rfl, _⟩ := own_rd h hn
  rfl
/-- what the call gives -/
def LeastOut (cs : List Int) (n : Nat) (w : World) (r : Ending) (w' : World) : Prop :=
  ∃ (d : List Int) (u : Value), r = .returned (.tuple #[u, .int .i64 (firstF (ctF cs n) n), .bool true]) ∧ d.length = n ∧ (∀ k, k < n → 0 ≤ d.getD k 0) ∧ Perm (ordF d) n ∧ chgF (ctF cs n) (ordF d) (n - 1) = firstF (ctF cs n) n ∧ w'.ownsRow w.heap.size 2 1 u n (d.map vi) ∧ Below w.heap.size w w'
set_option maxHeartbeats 4000000 in
set_option maxRecDepth 100000 in
theorem LeastChanges_any (U : Value) (cs : List Int) (n : Nat) (w : World) (hc : CostsAt w U cs n) (n1 : 1 ≤ n) (n6 : n ≤ 6) :
    Calls Try.prog 8 #[U, .int .i64 n] w (LeastOut cs n w) := by
  have AC := hd (areCosts_any U cs n w hc n1 n6)
  obtain ⟨B, capb, rfl, hcapb, hrb⟩ := hc.sl
  obtain ⟨p, hp⟩ : ∃ p, p = n * n := ⟨_, rfl⟩
  rw [← hp] at hcapb hrb ⊢
  have CT := hd (fun (w' : World) (hb : Below w.heap.size w w') (i j : Nat) (hi : i < n) (hj : j < n) => ct_at (hrb.below hb) hp n6 hi hj)
  rw [← hp] at AC
  have CB := hd (fun i j => hc.ct i j)
  clear hc hrb hp
  obtain ⟨Z, hZ⟩ : ∃ Z, Z = 2 ^ n := ⟨_, rfl⟩
  have z1 : 2 ≤ Z := by
    have : 2 ^ 1 ≤ 2 ^ n := Nat.pow_le_pow_right (by omega) n1
    omega
  have z2 : Z ≤ 64 := by
    have : 2 ^ n ≤ 2 ^ 6 := Nat.pow_le_pow_right (by omega) n6
    omega
  have hZi : (2 : Int) ^ n = (Z : Int) := by rw [hZ]; simp
  have HZ := hd hZ
  have hwz : IntKind.i64.wrap (Z : Int) = (Z : Int) := IntWalk.i64_in _ (by omega)
  have hwz1 : IntKind.i64.wrap ((Z : Int) - 1) = (Z : Int) - 1 := IntWalk.i64_in _ (by omega)
  have hwz2 : IntKind.i64.wrap ((Z : Int) - 1 + 1) = (Z : Int) := by rw [IntWalk.i64_in _ (by omega)]; omega
  have hn64 : min n 64 = n := by omega
  clear hZ
  go_enter Try.func8, Try.ntmps8
  go_wp2_with (first
    | (go_at_call 16; refine AC.out.mono ?_; rintro e w' ⟨rfl, hw⟩; replace hw := hw.symm; subst hw)
    | (at_make; go_must (refine wpList_make_rows _ rfl _ rfl _ _ Z rfl rfl (by omega) ?_); intro w2 ho2 hb2))
  have HT2 := hd ho2
  have HB2 := hd hb2
  have hgs2 : w.heap.size < w2.heap.size := (World.ownsRow.lt ho2 _ rfl).2
  clear ho2 hb2 AC
  obtain ⟨g, hg⟩ : ∃ g, g = w.heap.size := ⟨_, rfl⟩
  rw [← hg] at HT2 hgs2 ⊢
  have HGW := hd hg
  clear hg
  obtain ⟨c, hcc⟩ : ∃ c, c = ctF cs n := ⟨_, rfl⟩
  rw [← hcc] at CT CB
  have HCC := hd hcc
  clear hcc
  have RB := hd (fun e l => Rr_bd (c := c) (fun i j => CB.out i j) n6 e l)
  go_loopw [9] (fun iv wr => ∃ (dd : Nat) (us : List Value), dd < Z ∧ iv = .int .i64 dd ∧ Hid (wr.ownsRow g 25 1 (.slice (some ⟨g, 0, none⟩) Z Z) Z us) ∧ Hid (RowsAt wr g wr.heap.size c n (dd + 1) Z us) ∧ Hid (Below w.heap.size w wr)) (fun iv _ => (intOf iv).toNat)
  case atStart => exact ⟨Z - 1, _, by omega, by go_num, HT2, hd (fun e h1 h2 => by omega), HB2⟩
  case round =>
    clear HT2 HB2 hgs2
    obtain ⟨d, us, hd64, rfl, HT, HRO, HB⟩ := hrel
    by_cases hd1 : 1 ≤ d
    · have hdi : (d : Int) ≥ 1 := by omega
      have hdz : (d : Int) < (Z : Int) := Int.ofNat_lt.2 hd64
      go_wp2_with (first
        | (at_make; go_must (refine wpList_make_int _ rfl _ rfl _ _ n rfl rfl (by omega) ?_); intro w3 ho3 hb3; have HT3 := hd (own_below HT.out hb3))
        | ((with_reducible refine wpList_store_own _ g 25 1 Z Z g _ HT3.out size_rows d (.slice (some ⟨wr.heap.size, 0, none⟩) n n) ?_ ?_ ?_ ?_ ?_); exact rfl; exact rfl; exact rfl; omega; intro w4 ho4 hg4))
      have hb4 : Below w.heap.size w w4 := below_row hg4 (below_tr hb3 HB.out) (fun k e => by cases e; rw [HGW.out]; exact Nat.le_refl _)
      have hHg : wr.heap.size ≠ g := by have := (World.ownsRow.lt HT.out _ rfl).2; simp only at this; omega
      have hH4 : wr.heap.size < w4.heap.size := by
        have h1 := (World.ownsRow.lt ho3 _ rfl).2
        have h2 := hg4.size
        simp only at h1; omega
      have hul : us.length = Z := by have := HT.out.1; omega
      have HUD := hd (show (us.set d (.slice (some ⟨wr.heap.size, 0, none⟩) n n))[d]? = some (.slice (some ⟨wr.heap.size, 0, none⟩) n n) by rw [List.getElem?_set, if_pos rfl, if_pos (by omega)])
      have HRO4 := hd (((HRO.out.below hb3).keep hg4 (.inr rfl)).set (d := d) (.slice (some ⟨wr.heap.size, 0, none⟩) n n) (by omega) (Nat.le_refl _))
      have HV4 := hd (show w4.ownsRow wr.heap.size 2 1 (.slice (some ⟨wr.heap.size, 0, none⟩) n n) n ((List.replicate n (0 : Int)).map vi) by
        rw [List.map_replicate]
        exact ho3.kept hg4 (.inr (by simp only [Value.ownBlock, Option.map_some, ne_eq, Option.some.injEq]; exact hHg)))
      have HT4 := hd ho4
      have HB4 := hd hb4
      have HGH := hd (show w.heap.size ≤ wr.heap.size from HB.out.size)
      clear ho3 hb3 HT3 ho4 hg4 hb4 HT HRO HB
      generalize hus : us.set d (.slice (some ⟨wr.heap.size, 0, none⟩) n n) = us4 at *
      clear hus hul
      generalize wr.heap.size = H at *
      go_loopw [43] (fun iv wr => ∃ (l : Nat) (ds : List Int), l ≤ n ∧ iv = .int .i64 l ∧ Hid (wr.ownsRow H 2 1 (.slice (some ⟨H, 0, none⟩) n n) n (ds.map vi)) ∧ Hid (∀ j, j < l → ds.getD j 0 = Rr c n d j) ∧ Hid (wr.ownsRow g 25 1 (.slice (some ⟨g, 0, none⟩) Z Z) Z us4) ∧ Hid (RowsAt wr g H c n (d + 1) Z us4) ∧ Hid (Below w.heap.size w wr) ∧ H < wr.heap.size) (fun iv _ => n - (intOf iv).toNat)
      case atStart => exact ⟨0, _, by omega, rfl, HV4, hd (fun j hj => by omega), HT4, HRO4, HB4, hH4⟩
      case round =>
        clear HV4 HT4 HRO4 HB4 hH4
        obtain ⟨l, ds, hl, rfl, HV, HD, HT, HRO, HB, hHs⟩ := hrel
        by_cases hln : l < n
        · have hli : (l : Int) < (n : Int) := Int.ofNat_lt.2 hln
          have BC := hd (fun t => bestF_cases (g := byW c n d l) (e := d) t)
          have BS := hd (fun t => (show bestF (byW c n d l) d (t + 1) = if d.testBit t = true then bestF (byW c n d l) d t else if bestF (byW c n d l) d t < 0 ∨ byW c n d l t < bestF (byW c n d l) d t then byW c n d l t else bestF (byW c n d l) d t from rfl))
          have B0 := hd (show bestF (byW c n d l) d 0 = -1 from rfl)
          have RE := hd (Rr_eq c n (show d < 2 ^ n by rw [← HZ.out]; exact hd64) l)
          have BW := hd (fun t => (show byW c n d l t = c l t + Rr c n (d ||| 2 ^ t) t from rfl))
          generalize hF : bestF (byW c n d l) d = F at *
          clear hF
          go_wp2
          go_loopw [11, 47] (fun bv tv wr2 => ∃ (t q : Nat), t ≤ n ∧ tv = .int .i64 t ∧ bv = .int .i64 (F t) ∧ wr2 = wr.drewN q) (fun _ tv _ => n - (intOf tv).toNat)
          case atStart => exact ⟨0, 0, by omega, rfl, by rw [B0.out], rfl⟩
          case round =>
            obtain ⟨t, q, ht, rfl, rfl, hw⟩ := hrel
            subst hw
            by_cases htn : t < n
            · have hti : (t : Int) < (n : Int) := Int.ofNat_lt.2 htn
              have hta : (t : Int) < 64 := by omega
              have E := i64_bit' d t (by omega) (by omega)
              have t64 : min t 64 = t := by omega
              have bs := BS.out t
              obtain ⟨y, hy⟩ : ∃ y, y = F t := ⟨_, rfl⟩
              rw [← hy] at bs ⊢
              clear hy
              cases hbit : d.testBit t with
              | true =>
                rw [hbit, if_pos rfl] at E bs
                have BSk := hd bs
                clear hbit bs
                go_wp2
                go_roundw
                case rel => exact ⟨t + 1, q, by omega, by go_num, by rw [BSk.out], by first | rfl | trivial⟩
                case measure => simp [intOf]; omega
              | false =>
                rw [hbit, if_neg (by simp)] at E
                rw [hbit, if_neg (by simp)] at bs
                obtain ⟨m1, q1, bb, ob, rfl, c1, e1, e2, e3, e4⟩ := CT.out _ HB.out l t hln htn
                have hlt' : d ||| 2 ^ t < Z := by rw [HZ.out]; exact or_lt (by rw [← HZ.out]; exact hd64) htn
                have hgt' := or_gt hbit
                obtain ⟨b2, cap2, f1, f2, f3, f4, f5⟩ := HRO.out (d ||| 2 ^ t) (by omega) hlt'
                have ct := HT.out.cellAt (d ||| 2 ^ t) (by omega)
                rw [f3] at ct
                have cr := f5 t htn
                obtain ⟨J, -, j1, j2, j3⟩ := bit_or d t (by omega) (by omega)
                rw [j1] at E
                have bw := BW.out t
                have r1 := RB.out (d ||| 2 ^ t) t
                have r2 := CB.out l t
                rw [bw] at bs
                generalize Rr c n (d ||| 2 ^ t) t = z1 at *
                generalize c l t = z2 at *
                generalize d ||| 2 ^ t = e' at *
                have w9 : IntKind.i64.wrap (z2 + z1) = z2 + z1 := IntWalk.i64_in _ (by omega)
                have h5 : (0 : Int) ≤ (e' : Int) := by omega
                have h6 : (e' : Int) < (Z : Int) := by omega
                clear hbit f1 f2 f3 f5 r1 r2 bw hlt' hgt'
                by_cases hy0 : y < 0
                · rw [if_pos (.inl hy0)] at bs
                  have BSk := hd bs
                  clear bs
                  go_wp2_with fail
                  go_quiet (fail)
                  clear c1 ct cr e1 e2 E w9
                  go_wp2
                  go_roundw
                  case rel => exact ⟨t + 1, q + nq, by omega, by go_num, by rw [BSk.out], by first | rfl | rw [World.drewN_drewN]⟩
                  case measure => simp [intOf]; omega
                · by_cases hyz : z2 + z1 < y
                  · rw [if_pos (.inr hyz)] at bs
                    have BSk := hd bs
                    clear bs
                    go_wp2_with fail
                    go_quiet (fail)
                    clear c1 ct cr e1 e2 E w9
                    go_wp2
                    go_roundw
                    case rel => exact ⟨t + 1, q + nq, by omega, by go_num, by rw [BSk.out], by first | rfl | rw [World.drewN_drewN]⟩
                    case measure => simp [intOf]; omega
                  · rw [if_neg (by omega)] at bs
                    have BSk := hd bs
                    clear bs
                    go_wp2_with fail
                    go_quiet (fail)
                    clear c1 ct cr e1 e2 E w9
                    go_wp2
                    go_roundw
                    case rel => exact ⟨t + 1, q + nq, by omega, by go_num, by rw [BSk.out], by first | rfl | rw [World.drewN_drewN]⟩
                    case measure => simp [intOf]; omega
            · obtain rfl : n = t := by omega
              have re := RE.out
              have r1 := RB.out d l
              obtain ⟨z, hz⟩ : ∃ z, z = Rr c n d l := ⟨_, rfl⟩
              rw [← hz] at re r1
              have HZV := hd hz
              clear hz
              generalize F n = y at *
              have hlds : l < ds.length := by have := HV.out.1; simp at this; omega
              have HDs := hd (show ∀ j, j < l + 1 → (ds.set l z).getD j 0 = Rr c n d j from fun j hj => by
                rw [set_at _ _ _ _ hlds]
                by_cases hjl : j = l
                · rw [if_pos hjl, hjl]; exact HZV.out
                · rw [if_neg hjl]; exact HD.out j (by omega))
              have EM := hd (show (ds.map vi).set l (.int .i64 z) = (ds.set l z).map vi by rw [List.map_set]; rfl)
              have ct := HT.out.cellAt d (by omega)
              rw [HUD.out] at ct
              have HVq := hd (show (wr.drewN q).ownsRow H 2 1 (.slice (some ⟨H, 0, none⟩) n n) n (ds.map vi) from HV.out)
              clear r1 hlds
              by_cases h0 : 0 < y
              focus
                obtain rfl : z = y := by omega
                clear re
                go_wp2_with ((with_reducible refine wpList_store_own _ H 2 1 n n H _ HVq.out size_int l (.int .i64 z) ?_ ?_ ?_ ?_ ?_); exact rfl; exact rfl; exact rfl; omega; intro w5 ho5 hg5)
              rotate_left
              focus
                obtain rfl : z = 0 := by omega
                clear re
                go_wp2_with ((with_reducible refine wpList_store_own _ H 2 1 n n H _ HVq.out size_int l (.int .i64 0) ?_ ?_ ?_ ?_ ?_); exact rfl; exact rfl; exact rfl; omega; intro w5 ho5 hg5)
              all_goals
                have hgq : wr.grownBy w5 (some H) := World.grownBy.trans (below_all (below_drewN (Below.refl _ wr) q) _) hg5
                rw [EM.out] at ho5
                have HV5 := hd ho5
                have HT5 := hd (HT.out.kept hgq (.inr (by simp only [Value.ownBlock, Option.map_some, ne_eq, Option.some.injEq]; exact fun e => hHg e.symm)))
                have HRO5 := hd (HRO.out.keep hgq (.inl (Nat.le_refl _)))
                have HB5 := hd (below_row hgq HB.out (fun k e => by cases e; exact HGH.out))
                have hHs5 : H < w5.heap.size := Nat.lt_of_lt_of_le hHs hgq.size
                clear ho5 hg5 hgq ct
                go_roundw
                case rel => exact ⟨l + 1, _, by omega, by go_num, HV5, HDs, HT5, HRO5, HB5, hHs5⟩
                case measure => simp [intOf]; omega
        · obtain rfl : n = l := by omega
          have hwd : IntKind.i64.wrap ((d : Int) - 1) = (d : Int) - 1 := IntWalk.i64_in _ (by omega)
          have HRN := hd (HRO.out.add hHs hHg HUD.out (fun j hj => by
            have h1 := HV.out.cellAt j (by omega)
            have h2 : j < ds.length := by have := HV.out.1; simp at this; omega
            rw [h1, List.getElem?_map, List.getElem?_eq_getElem h2, Option.map_some, ← HD.out j hj, List.getD_eq_getElem?_getD, List.getElem?_eq_getElem h2]
            rfl))
          go_wp2
          go_roundw
          case rel => exact ⟨d - 1, us4, by omega, by go_num, HT, hd (by rw [show d - 1 + 1 = d by omega]; exact HRN.out), HB⟩
          case measure => simp [intOf]; omega
    · obtain rfl : d = 0 := by omega
      have hstart := World.ownsRow_made (base := wr.heap.size) (size := 1) wr #[] 0 (Nat.le_refl _) (by unfold maxLen; omega) rfl (e := 2)
      have HOW := hd hstart
      have HBW := hd (HB.out.alloc HB.out.size (.cells #[] 2))
      have HRW := hd (HRO.out.below ((Below.refl _ wr).alloc (Nat.le_refl _) (.cells #[] 2)))
      have HTW := hd (HT.out.alloc (.cells #[] 2))
      have hgH : g < wr.heap.size := by have := (World.ownsRow.lt HT.out _ rfl).2; simp only at this; omega
      have HGH := hd HB.out.size
      clear hstart
      go_upto_region 26 with fail
      rw [show ((0 : Nat) : Int) = 0 from rfl]
      generalize hW : World.alloc wr (.cells #[] 2) = W at *
      clear hW HT HRO HB
      generalize wr.heap.size = H at *
      have hbit0 : ∀ t, (0 : Nat).testBit t = false := Nat.zero_testBit
      have BC := hd (fun t => (show bestF (fun t => byW c n 0 t t) 0 (t + 1) = if bestF (fun t => byW c n 0 t t) 0 t < 0 ∨ byW c n 0 t t < bestF (fun t => byW c n 0 t t) 0 t then byW c n 0 t t else bestF (fun t => byW c n 0 t t) 0 t by rw [bestF, hbit0, if_neg (by simp)]))
      have B0 := hd (show bestF (fun t => byW c n 0 t t) 0 0 = -1 from rfl)
      have BN := hd (show bestF (fun t => byW c n 0 t t) 0 n = firstF c n from rfl)
      have BW := hd (fun t => (show byW c n 0 t t = c t t + Rr c n (0 ||| 2 ^ t) t from rfl))
      generalize hF : bestF (fun t => byW c n 0 t t) 0 = F at *
      clear hF
      go_loopw [15, 94] (fun lv tv wr2 => ∃ (t q : Nat), t ≤ n ∧ tv = .int .i64 t ∧ lv = .int .i64 (F t) ∧ wr2 = W.drewN q) (fun _ tv _ => n - (intOf tv).toNat)
      case atStart => exact ⟨0, 0, by omega, rfl, by rw [B0.out], rfl⟩
      case round =>
        obtain ⟨t, q, ht, rfl, rfl, hw⟩ := hrel
        subst hw
        by_cases htn : t < n
        · have hti : (t : Int) < (n : Int) := Int.ofNat_lt.2 htn
          have t64 : min t 64 = t := by omega
          have bs := BC.out t
          obtain ⟨y, hy⟩ : ∃ y, y = F t := ⟨_, rfl⟩
          rw [← hy] at bs ⊢
          clear hy
          obtain ⟨m1, q1, bb, ob, rfl, c1, e1, e2, e3, e4⟩ := CT.out _ HBW.out t t htn htn
          obtain ⟨J, j0, j1, j2, j3⟩ := bit_or 0 t (by omega) (by omega)
          have hlt' : 0 ||| 2 ^ t < Z := by rw [HZ.out]; exact or_lt (Nat.pow_pos (by omega)) htn
          have hgt' := or_gt (hbit0 t)
          obtain ⟨b2, cap2, f1, f2, f3, f4, f5⟩ := HRW.out (0 ||| 2 ^ t) (by omega) hlt'
          have ct := HTW.out.cellAt (0 ||| 2 ^ t) (by omega)
          rw [f3] at ct
          have cr := f5 t htn
          have bw := BW.out t
          have r1 := RB.out (0 ||| 2 ^ t) t
          have r2 := CB.out t t
          rw [bw] at bs
          generalize Rr c n (0 ||| 2 ^ t) t = z1 at *
          generalize c t t = z2 at *
          rw [Nat.zero_or, ← j0] at ct hlt'
          have w9 : IntKind.i64.wrap (z2 + z1) = z2 + z1 := IntWalk.i64_in _ (by omega)
          have h6 : (J : Int) < (Z : Int) := by omega
          clear f1 f2 f3 f5 r1 r2 bw hlt' hgt' j3 j0
          by_cases hy0 : y < 0
          focus
            rw [if_pos (.inl hy0)] at bs
            have BSk := hd bs
            clear bs
            go_wp2_with fail
            go_quiet (fail)
            clear c1 ct cr e1 e2 w9 j1
            go_wp2
          rotate_left
          focus
            by_cases hyz : z2 + z1 < y
            focus
              rw [if_pos (.inr hyz)] at bs
              have BSk := hd bs
              clear bs
              go_wp2_with fail
              go_quiet (fail)
              clear c1 ct cr e1 e2 w9 j1
              go_wp2
            rotate_left
            focus
              rw [if_neg (by omega)] at bs
              have BSk := hd bs
              clear bs
              go_wp2_with fail
              go_quiet (fail)
              clear c1 ct cr e1 e2 w9 j1
              go_wp2
          all_goals
            go_roundw
            case rel => exact ⟨t + 1, q + nq, by omega, by go_num, by rw [BSk.out], by first | rfl | rw [World.drewN_drewN]⟩
            case measure => simp [intOf]; omega
        · obtain rfl : n = t := by omega
          rw [BN.out]
          have HOq := hd (show (W.drewN q).ownsRow H 2 1 (.slice (some ⟨H, 0, none⟩) 0 0) 0 (([] : List Int).map vi) from HOW.out)
          have HBq := hd (below_drewN HBW.out q)
          have HRq := hd (show RowsAt (W.drewN q) g H c n 1 Z us from HRW.out)
          have HTq := hd (show (W.drewN q).ownsRow g 25 1 (.slice (some ⟨g, 0, none⟩) Z Z) Z us from HTW.out)
          have hHq : H < (W.drewN q).heap.size := (World.ownsRow.lt HOq.out _ rfl).2
          have ST := hd (SchI.start c n)
          clear HOW HBW HRW HTW B0 BC BW BN
          generalize World.drewN W q = W2 at *
          generalize hFF : firstF c n = FF at *
          have HFF := hd hFF
          clear hFF
          go_wp2
          go_loopw [14, 15, 19] (fun ov lv dv wr => ∃ (dl : List Int) (left : Int), dl.length ≤ n ∧ Hid (wr.ownsRow H 2 1 ov dl.length (dl.map vi)) ∧ lv = .int .i64 left ∧ dv = .int .i64 (bitsF (ordF dl) dl.length : Nat) ∧ Hid (SchI c n dl left) ∧ Hid (RowsAt wr g H c n 1 Z us) ∧ Hid (wr.ownsRow g 25 1 (.slice (some ⟨g, 0, none⟩) Z Z) Z us) ∧ Hid (Below w.heap.size w wr) ∧ H < wr.heap.size) (fun ov _ _ _ => n - lenV ov)
          case atStart => exact ⟨[], FF, by simp, HOq, rfl, rfl, hd ST.out, HRq, HTq, HBq, hHq⟩
          case round =>
            clear HOq ST HRq HTq HBq hHq
            obtain ⟨dl, left, hlen, HO, rfl, rfl, SI, HRO, HT, HB, hHs⟩ := hrel
            obtain ⟨k, hk⟩ : ∃ k, k = dl.length := ⟨_, rfl⟩
            rw [← hk] at hlen HO
            have HK := hd hk
            rw [← hk]
            obtain ⟨A0, cap, hA0, hcap, hro, _⟩ := own_rd HO.out (by unfold maxLen; omega)
            subst hA0
            have HOR := hd hro
            clear hk hro
            by_cases hkn : k < n
            · have hki : (k : Int) < (n : Int) := Int.ofNat_lt.2 hkn
              have NX := hd (SI.out.next (fun i j => (CB.out i j).1) (by rw [← HK.out]; exact hkn))
              rw [← HK.out] at NX
              have hD64 : bitsF (ordF dl) k < Z := by rw [HZ.out]; exact bitsF_lt k fun i hi => SI.out.ltN (by rw [← HK.out]; exact hi)
              obtain ⟨D, hD⟩ : ∃ D, D = bitsF (ordF dl) k := ⟨_, rfl⟩
              rw [← hD] at NX hD64 ⊢
              have HDD := hd hD
              clear hD
              go_wp2
              go_loopw [14, 15, 19, 129] (fun ov lv dv tv wr2 => ∃ t : Nat, t ≤ n ∧ ov = .slice A0 k cap ∧ lv = .int .i64 left ∧ dv = .int .i64 D ∧ tv = .int .i64 t ∧ wr2 = wr ∧ Hid (∀ t', t' < t → D.testBit t' = false → stepF c dl t' + Rr c n (D ||| 2 ^ t') t' ≠ left)) (fun _ _ _ tv _ => n - (intOf tv).toNat)
              case atStart => exact ⟨0, by omega, rfl, rfl, rfl, rfl, rfl, hd (fun t' ht' => by omega)⟩
              case round =>
                obtain ⟨t, ht, rfl, rfl, rfl, rfl, hw, HNO⟩ := hrel
                subst hw
                by_cases htn : t < n
                · have hti : (t : Int) < (n : Int) := Int.ofNat_lt.2 htn
                  have hta : (t : Int) < 64 := by omega
                  have E := i64_bit' D t (by omega) (by omega)
                  have t64 : min t 64 = t := by omega
                  obtain ⟨J, j0, j1, j2, j3⟩ := bit_or D t (by omega) (by omega)
                  rw [j1] at E
                  clear j0
                  cases hbit : D.testBit t with
                  | true =>
                    rw [hbit, if_pos rfl] at E
                    have HN1 := hd (show ∀ t', t' < t + 1 → D.testBit t' = false → stepF c dl t' + Rr c n (D ||| 2 ^ t') t' ≠ left from fun t' h1 h2 => by
                      by_cases h3 : t' = t
                      · subst h3; rw [hbit] at h2; cases h2
                      · exact HNO.out t' (by omega) h2)
                    clear hbit
                    go_wp2
                    go_roundw
                    case rel => exact ⟨t + 1, by omega, by first | rfl | trivial, by first | rfl | trivial, by first | rfl | trivial, by go_num, by first | rfl | trivial, HN1⟩
                    case measure => simp [intOf]; omega
                  | false =>
                    rw [hbit, if_neg (by simp)] at E
                    obtain ⟨m1, q1, bb, ob, rfl, c1, e1, e2, e3, e4⟩ := CT.out _ HB.out t t htn htn
                    have hlt' : D ||| 2 ^ t < Z := by rw [HZ.out]; exact or_lt (by rw [← HZ.out]; exact hD64) htn
                    have hgt' := or_gt hbit
                    obtain ⟨b2, cap2, f1, f2, f3, f4, f5⟩ := HRO.out (D ||| 2 ^ t) (by omega) hlt'
                    have ct := HT.out.cellAt (D ||| 2 ^ t) (by omega)
                    rw [f3] at ct
                    have cr := f5 t htn
                    have r1 := RB.out (D ||| 2 ^ t) t
                    have r2 := CB.out t t
                    have HSTEP := hd (fun (he : stepF c dl t + Rr c n (D ||| 2 ^ t) t = left) => SI.out.step htn (by rw [← HK.out, ← HDD.out]; exact hbit) (by rw [← HK.out, ← HDD.out]; exact he))
                    have HSF := hd (show stepF c dl t = if k = 0 then c t t else c (ordF dl (k - 1)) t by rw [stepF, ← HK.out])
                    have HN1 := hd (fun (hne : stepF c dl t + Rr c n (D ||| 2 ^ t) t ≠ left) => show ∀ t', t' < t + 1 → D.testBit t' = false → stepF c dl t' + Rr c n (D ||| 2 ^ t') t' ≠ left from fun t' h1 h2 => by
                      by_cases h3 : t' = t
                      · subst h3; exact hne
                      · exact HNO.out t' (by omega) h2)
                    have HBF := hd (show bitsF (ordF (dl ++ [(t : Int)])) (dl ++ [(t : Int)]).length = D ||| 2 ^ t by
                      rw [List.length_append, List.length_singleton, bitsF, ordF_last, bitsF_congr (g := ordF dl) _ fun i hi => ordF_app hi, ← HK.out, ← HDD.out])
                    have HLN := hd (show (dl ++ [(t : Int)]).length = k + 1 by rw [List.length_append, List.length_singleton, ← HK.out])
                    obtain ⟨sv, hsv⟩ : ∃ sv, sv = stepF c dl t := ⟨_, rfl⟩
                    rw [← hsv] at HSTEP HSF HN1
                    generalize Rr c n (D ||| 2 ^ t) t = z1 at *
                    generalize D ||| 2 ^ t = e' at *
                    have h6 : (e' : Int) < (Z : Int) := by omega
                    clear f1 f2 f3 f5 hlt' hgt' hbit hsv
                    by_cases hk0 : k = 0
                    focus
                      have hsf := HSF.out
                      rw [if_pos hk0] at hsf
                      rw [← hsf] at c1 r2
                      clear hsf
                      have hk0i : (k : Int) = 0 := by omega
                      go_upto_region 42 with fail
                    rotate_left
                    focus
                      have hsf := HSF.out
                      rw [if_neg hk0] at hsf
                      obtain ⟨m, hm⟩ : ∃ m, m = k - 1 := ⟨_, rfl⟩
                      rw [← hm] at hsf
                      have hmk : m < k := by omega
                      obtain ⟨bo, oo, rfl, cd⟩ := HOR.out.int hmk
                      have hx := SI.out.lt m (by rw [← HK.out]; exact hmk)
                      have hxn : ordF dl m < n := by rw [ordF]; omega
                      have hxc : dl.getD m 0 = (ordF dl m : Int) := by rw [ordF]; omega
                      rw [hxc] at cd
                      obtain ⟨m2, q2, _, _, e0, c2, d1, d2, d3, d4⟩ := CT.out _ HB.out (ordF dl m) t hxn htn
                      cases e0
                      have r2' := CB.out (ordF dl m) t
                      rw [← hsf] at c2 r2'
                      clear hsf hx hxc hxn r2
                      have r2 := r2'
                      clear r2'
                      generalize ordF dl m = x at *
                      have hk0i : ¬ (k : Int) = 0 := by omega
                      have hk0j : (0 : Int) < (k : Int) := by omega
                      have hwk : IntKind.i64.wrap ((k : Int) - 1) = (m : Int) := by rw [IntWalk.i64_in _ (by omega)]; omega
                      have hmi : (m : Int) < (k : Int) := by omega
                      generalize c t t = z9 at *
                      clear hm hmk
                      go_upto_region 42 with fail
                    all_goals
                      have w9 : IntKind.i64.wrap (sv + z1) = sv + z1 := IntWalk.i64_in _ (by omega)
                      by_cases heq : sv + z1 = left
                      · have SI2 := hd (HSTEP.out heq)
                        have wl : IntKind.i64.wrap (left - sv) = left - sv := IntWalk.i64_in _ (by omega)
                        have wl0 : IntKind.i64.wrap left = left := IntWalk.i64_in _ (by omega)
                        clear HSTEP HN1 HSF HNO NX E r1 r2
                        go_wp2_with (at_builtin; go_must (refine wpList_app_int _ _ _ rfl _ _ rfl H k _ _ rfl HO.out rfl _ rfl (by simp) (by omega) (Nat.le_of_lt hHs) ?_); intro v' w1 ho1 hg1 hap)
                        have hrow := own_row HO.out (Nat.le_refl _)
                        have HO1 := hd (show w1.ownsRow H 2 1 v' (dl ++ [(t : Int)]).length ((dl ++ [(t : Int)]).map vi) by rw [HLN.out, List.map_append]; exact ho1)
                        have HB1 := hd (below_row hg1 HB.out (fun k e => Nat.le_trans HGH.out (hrow k e)))
                        have HR1 := hd (HRO.out.keepO hg1 hrow)
                        have HT1 := hd (own_kept HT.out hg1 (fun k e e2 => by
                          have h1 := hrow k e2
                          simp only [Value.ownBlock, Option.map_some, Option.some.injEq] at e
                          omega))
                        have hHs1 := Nat.lt_of_lt_of_le hHs hg1.size
                        have hl1 := lenV_own ho1 (by unfold maxLen; omega)
                        clear ho1 hg1 hap hrow
                        refine ⟨⟨dl ++ [(t : Int)], left - sv, by rw [HLN.out]; omega, HO1, rfl, by rw [HBF.out], SI2, HR1, HT1, HB1, hHs1⟩, ?_⟩
                        rw [hl1]
                        simp only [lenV]
                        omega
                      · have HN2 := hd (HN1.out heq)
                        clear HSTEP HN1 HSF HNO NX E r1 r2
                        go_wp2
                        go_roundw
                        case rel => exact ⟨t + 1, by omega, by first | rfl | trivial, by first | rfl | trivial, by first | rfl | trivial, by go_num, by first | rfl | trivial, HN2⟩
                        case measure => simp [intOf]; omega
                · exfalso
                  obtain ⟨t', h1, h2, h3⟩ := NX.out
                  exact HNO.out t' (by omega) h2 h3
            · obtain rfl : n = k := by omega
              have FI := hd (SI.out.fin n1 HK.out.symm)
              have HNN := hd (fun j (hj : j < n) => (SI.out.lt j (by rw [← HK.out]; exact hj)).1)
              have hf := HFF.out
              have hcc := HCC.out
              subst hcc
              subst hf
              go_wp2
              go_ret3
              exact ⟨dl, _, rfl, HK.out.symm, HNN.out, FI.out.1, FI.out.2, own_mono HO.out HGH.out, HB.out⟩
end Go.Proofs.Ytkdjeneogclocaa
