/- IdleMoves of the program, of valid trips, up to 24: a contract. -/
import Derived.Test.YtdkmloomlnljlaaProg
import Derived.Test.YtdkmloomlnljlaaIdleI
import Derived.Test.YtdkmloomlnljlaaSymS
namespace Go.Proofs.Ytdkmloomlnljlaa
open Go.RowKit Plain
set_option linter.unusedVariables false
set_option linter.unusedSimpArgs false
attribute [local go_sem ↓] Go.wp_at_zero Go.wp_at_succ
set_option maxHeartbeats 4000000 in
set_option maxRecDepth 100000 in
theorem idle24_any (l : List Q4) (ht : tripsB l = true) (ms : List Int) (h2 : movesB ms = true) (vs : List Int) (n : Nat) (hn : l.length = n) (hvl : vs.length = n) (hv : ∀ x, x < n → 0 ≤ vs.getD x 0 ∧ vs.getD x 0 ≤ 23) (n1 : 1 ≤ n) (n24 : n ≤ 24) (w : World) (v u z : Value) (s : Sl w 4 v n (q4s l)) (t : Sl w 1 u 64 (ms.map vi)) (r : Sl w 1 z n (vs.map vi)) :
    Calls Try.prog 8 #[v, u, z] w fun e w' => Below w.heap.size w w' ∧
      ((idleF (fitV l ms) (mvV l ms) (fun x => (vs.getD x 0).toNat) (ordO l) n = none ∧ e = .returned (.tuple #[.int .i64 0, .bool false])) ∨
       ∃ la sm, idleF (fitV l ms) (mvV l ms) (fun x => (vs.getD x 0).toNat) (ordO l) n = some (la, sm) ∧ e = .returned (.tuple #[.int .i64 sm, .bool true])) := by
  have hml : ms.length = 64 := (movesB_iff.1 h2).1
  have hmany : manyIn vs n n 0 23 = true := by
    simp only [manyIn, Bool.and_eq_true, decide_eq_true_eq, List.all_eq_true, inR_iff]
    refine ⟨by omega, by omega, fun x hx => ?_⟩
    obtain ⟨k, hk, rfl⟩ := List.getElem_of_mem hx
    have := hv k (by omega)
    rw [List.getD_eq_getElem?_getD, List.getElem?_eq_getElem hk] at this
    exact this
  have A1 := hd (fun w' (h : Below w.heap.size w w') => AreTrips_any v l w' (by rw [hn]; exact s.below h))
  have A2 := hd (fun w' (h : Below w.heap.size w w') => AreMoves_any u ms w' (by rw [hml]; exact t.below h))
  have A3 := hd (fun w' (h : Below w.heap.size w w') => areMany_any z vs n n 0 23 w' (by rw [hvl]; exact r.below h))
  rw [ht] at A1
  rw [h2] at A2
  rw [hmany] at A3
  have S1 := hd s
  have S2 := hd t
  have S3 := hd r
  obtain ⟨P1, c1, rfl, hc1, hr1⟩ := id s
  obtain ⟨P2, c2, rfl, hc2, hr2⟩ := id t
  obtain ⟨P3, c3, rfl, hc3, hr3⟩ := id r
  have R1 := hd hr1
  have R2 := hd hr2
  have R3 := hd hr3
  have k1 : (w.alloc (.cells #[.slice P1 n c1] 27)).cell? ⟨w.heap.size, 0, none⟩ = some (.slice P1 n c1) := (World.cell?_alloc_new ..).trans rfl
  have HB1 := hd (show Below w.heap.size w (w.alloc (.cells #[.slice P1 n c1] 27)) from (Below.refl _ _).alloc (Nat.le_refl _) _)
  have K1 := hd k1
  have HVV := hd hv
  clear s t r hr1 hr2 hr3 k1 hmany hv
  go_enter Try.func8, Try.ntmps8
  go_upto_region 1 with fail
  obtain ⟨W, hW⟩ : ∃ W, W = w.alloc (.cells #[.slice P1 n c1] 27) := ⟨_, rfl⟩
  have HSW := hd (show w.heap.size < W.heap.size by rw [hW]; simp)
  rw [← hW] at K1 HB1 ⊢
  clear hW
  have k1 := K1.out
  go_wp2_with fail
  go_at_call 16
  refine (A1.out W HB1.out).mono ?_; rintro e w2 ⟨rfl, hb2⟩
  have B2 := hd (below_tr hb2 HB1.out)
  have HSW2 := hd (show w.heap.size < w2.heap.size by have h1 := HSW.out; have h2 := hb2.size; omega)
  have k2 := below_at hb2 K1.out
  have K2 := hd k2
  clear k1 hb2
  go_wp2_with fail
  go_at_call 17
  have AM2 := A2.out w2 B2.out
  refine AM2.mono ?_; rintro e w3 ⟨rfl, hw⟩
  subst hw
  clear AM2 A2
  go_wp2_with fail
  go_at_call 18
  refine (A3.out w2 B2.out).mono ?_; rintro e w3 ⟨rfl, hw⟩
  subst hw
  clear A3 A1
  go_wp2_with fail
  go_at_call 19
  refine (none_any 24 (by omega) (by omega) w2).mono ?_
  rintro e w3 ⟨la, rfl, ho3, hb3⟩
  obtain ⟨gl, cl, rfl, hgl, _⟩ := own_form ho3 (by omega)
  have B3 := hd (below_tr hb3 B2.out)
  have k3 := below_at hb3 K2.out
  have K3 := hd k3
  have HL3 := hd ho3
  have HGL := hd hgl
  clear k2 hb3 ho3 hgl K1 K2
  go_wp2_with fail
  go_at_call 20
  refine (sorted24_any l ht P1 n c1 w.heap.size hn n1 n24 w3 k3 (R1.out.below B3.out)).mono ?_
  rintro e w4 ⟨so, rfl, ho4, hb4⟩
  obtain ⟨gs, cs, rfl, hgs, _⟩ := own_form ho4 n1
  have B4 := hd (below_tr hb4 B3.out)
  have k4 := below_at hb4 K3.out
  have HL4 := hd (own_below HL3.out hb4)
  have HS4 := hd ho4
  have HGS := hd hgs
  have HSZ := hd (show gl < w3.heap.size from (World.ownsRow.lt HL3.out gl rfl).2)
  clear k3 K3 hb4 ho4 hgs HL3
  go_upto_region 6 with fail
  have hne : gl ≠ gs := by have h1 := HSZ.out; have h2 := HGS.out; omega
  go_loopw [8, 37] (fun sv kv wr => ∃ (k : Nat) (la : List Int) (sm : Int), k ≤ n ∧ kv = .int .i64 k ∧ sv = .int .i64 sm ∧ Hid (idleF (fitV l ms) (mvV l ms) (fun x => (vs.getD x 0).toNat) (ordO l) k = some (la, sm)) ∧ (0 ≤ sm ∧ sm ≤ 1000 * (k : Int)) ∧ Hid (wr.ownsRow w2.heap.size 2 1 (.slice (some ⟨gl, 0, none⟩) 24 cl) 24 (la.map vi)) ∧ Hid (w4.grownBy wr (some gl))) (fun _ kv _ => n - (intOf kv).toNat)
  case atStart => exact ⟨0, List.replicate 24 (-1), 0, by omega, rfl, rfl, hd rfl, by omega, hd (by rw [List.map_replicate]; exact HL4.out), hd (World.grownBy.refl _ _)⟩
  case round =>
    obtain ⟨k, la, sm, hk, rfl, rfl, HF, hsm, HLa, HG⟩ := hrel
    by_cases hlt : k < n
    · have k2i : (k : Int) < (n : Int) := Int.ofNat_lt.2 hlt
      have HO := hd (show ordO l k < n by rw [← hn]; exact ord_in l (by omega))
      obtain ⟨i, hi⟩ : ∃ i, i = ordO l k := ⟨_, rfl⟩
      have hin : i < n := by rw [hi]; exact HO.out
      have hg : (sortL (keyL l) (upTo n) n).getD k 0 = (i : Int) := by
        obtain ⟨a, b, _, _⟩ := ord_facts l
        have := b k (by omega)
        rw [hi, ordO]
        rw [hn] at this ⊢
        omega
      have HSr := HS4.out.kept HG.out (.inr (fun e => by cases e; exact hne rfl))
      have cs1 : wr.cell? ⟨gs, k, none⟩ = some (.int .i64 (i : Int)) := by
        have hlen : k < (sortL (keyL l) (upTo n) n).length := by rw [sortL_len, upTo_len]; exact hlt
        rw [HSr.cellAt k (by omega), List.getElem?_map, List.getElem?_eq_getElem hlen, Option.map_some]
        rw [List.getD_eq_getElem?_getD, List.getElem?_eq_getElem hlen] at hg
        simp only [Option.getD_some] at hg
        rw [hg]; rfl
      have hi2 : (i : Int) < (n : Int) := Int.ofNat_lt.2 hin
      have bvv := HVV.out i hin
      obtain ⟨vn, hvn⟩ : ∃ vn : Nat, vs.getD i 0 = (vn : Int) := ⟨(vs.getD i 0).toNat, by omega⟩
      have hv24 : vn < 24 := by omega
      have hne3 : P3.map (·.block) ≠ some gl := fun e => by
        obtain ⟨b, off, rfl, c0⟩ := R3.out.int (show 0 < n by omega)
        have h9 := block_lt_of_cell c0
        simp only [Option.map_some, Option.some.injEq] at e
        have h1 := HGL.out; have h2 := B2.out.size
        simp only at h9
        omega
      obtain ⟨b3, o3, rfl, cv⟩ := ((R3.out.below B4.out).grown HG.out (.inl hne3)).int hin
      rw [hvn] at cv
      have hv2 : (vn : Int) < 24 := by omega
      have cl1 : wr.cell? ⟨gl, vn, none⟩ = some (.int .i64 (la.getD vn 0)) := by
        have hlen : vn < la.length := by have := HLa.out.1; rw [List.length_map] at this; omega
        rw [HLa.out.cellAt vn (by omega), List.getElem?_map, List.getElem?_eq_getElem hlen, Option.map_some, List.getD_eq_getElem?_getD, List.getElem?_eq_getElem hlen]; rfl
      have HLW := hd (HLa.out)
      have HI := hd hi
      have HVN := hd hvn
      clear hi hvn hg HSr hne3 bvv HO
      by_cases hneg : la.getD vn 0 < 0
      · have E := hd (show idleF (fitV l ms) (mvV l ms) (fun x => (vs.getD x 0).toNat) (ordO l) (k + 1) = some (la.set vn (i : Int), sm) by
          rw [idleF, HF.out]
          simp only
          rw [← HI.out, HVN.out, Int.toNat_natCast, if_pos hneg])
        have hneg2 : ¬ 0 ≤ la.getD vn 0 := by omega
        generalize la.getD vn 0 = lv at *
        go_wp2_with ((with_reducible refine wpList_store_own _ w2.heap.size 2 1 24 cl gl _ HLW.out size_int vn (.int .i64 (i : Int)) ?_ ?_ ?_ ?_ ?_); exact rfl; exact rfl; exact rfl; omega; intro w5 ho5 hg5)
        go_roundw
        case rel => exact ⟨k + 1, la.set vn (i : Int), sm, by omega, by go_num, rfl, E, by push_cast; omega, hd (by rw [List.map_set]; exact ho5), hd (HG.out.trans hg5)⟩
        case measure => simp [intOf]; omega
      · have L := last_of' (f := fitV l ms) (mv := mvV l ms) (V := fun x => (vs.getD x 0).toNat) (O := ordO l) (n := n) (fun q hq => by
          have h1 := HVV.out (ordO l q) (by rw [← hn]; exact ord_in l (by omega))
          show (vs.getD (ordO l q) 0).toNat < 24
          omega) k (by omega) la sm HF.out
        obtain ⟨bn, hbn, hbl⟩ : ∃ bn : Nat, bn < n ∧ la.getD vn 0 = (bn : Int) := by
          rcases L.at' vn hv24 with ⟨h1, _⟩ | ⟨m, hm, he, _⟩
          · omega
          · exact ⟨ordO l m, by rw [← hn]; exact ord_in l (by omega), he⟩
        have hne1 : P1.map (·.block) ≠ some gl := fun e => by
          obtain ⟨b, off, _, _, _, _, rfl, _, c0, _⟩ := R1.out.q4 (show 0 < n by omega)
          have h9 := block_lt_of_cell c0
          simp only [Option.map_some, Option.some.injEq] at e
          have h1 := HGL.out; have h2 := B2.out.size
          simp only at h9
          omega
        have RT := (R1.out.below B4.out).grown HG.out (.inl hne1)
        have kb : wr.cell? ⟨w.heap.size, 0, none⟩ = some (.slice P1 n c1) := HG.out.cell k4 (by have h1 := HGL.out; have h2 := HSW2.out; simp; omega)
        have hne2 : NeSl (.slice P2 64 c2) gl := fun A' n' c' e h0 e2 => by
          cases e
          obtain ⟨b, off, rfl, c0⟩ := R2.out.int (show 0 < 64 by omega)
          have h9 := block_lt_of_cell c0
          simp only [Option.map_some, Option.some.injEq] at e2
          have h1 := HGL.out; have h2 := B2.out.size
          simp only at h9
          omega
        have SM := sl_grownO (S2.out.below B4.out) hne2 HG.out
        obtain ⟨pb, po', xa, xb, xc, xd, rfl, hqb, b0, b1, b2, b3'⟩ := RT.q4 hbn
        obtain ⟨_, _, ya, yb, yc, yd, e, hqi, i0, i1, i2', i3⟩ := RT.q4 hin
        cases e
        obtain ⟨nc, nd, rfl, rfl, hc7, hd7, a0, a1, bb0, bb1⟩ := trips_q ht hqb.out
        obtain ⟨nc', nd', rfl, rfl, hc7', hd7', a0', a1', bb0', bb1'⟩ := trips_q ht hqi.out
        have mb := moves_at h2 nd nc' hd7 hc7'
        have FW := hd (fun w' (hb : Below wr.heap.size wr w') => follows_any xa xb nc ya yb nd' nd nc' (.slice P2 64 c2) ms w' (by rw [hml]; exact SM.below hb) hml hd7 hc7' bb0 bb1 mb.1 mb.2)
        have MW := hd (fun w' (hb : Below wr.heap.size wr w') => move_any xa xb nc ya yb nd' nd nc' (.slice P2 64 c2) ms w' (by rw [hml]; exact SM.below hb) hml hd7 hc7')
        have hfit : fitV l ms bn i = decide (xb + ms.getD (nd * 8 + nc') 0 ≤ ya) := by rw [fitV, cellF_at hqb.out hqi.out, folB_nat]
        have hmv : mvV l ms bn i = ms.getD (nd * 8 + nc') 0 := by
          rw [mvV, hqb.out, hqi.out]
          simp only
          rw [show ((nd : Int) * 8 + (nc' : Int)).toNat = nd * 8 + nc' by omega]
        have hbn2 : (bn : Int) < (n : Int) := Int.ofNat_lt.2 hbn
        rw [hbl] at cl1
        have hneg2 : 0 ≤ (bn : Int) := by omega
        cases hf : decide (xb + ms.getD (nd * 8 + nc') 0 ≤ ya) with
        | false =>
          rw [hf] at FW hfit
          have E := hd (show idleF (fitV l ms) (mvV l ms) (fun x => (vs.getD x 0).toNat) (ordO l) n = none from idle_stop (k := k + 1) (by
            rw [idleF, HF.out]
            simp only
            rw [← HI.out, HVN.out, Int.toNat_natCast, hbl, if_neg (by omega), Int.toNat_natCast, hfit]
            rfl) (by omega))
          clear hf hfit hmv MW SM L
          go_upto_region 11 with fail
          go_region_held3 (fun w' => w'.cell? ⟨w.heap.size, 0, none⟩ = some (.slice (some ⟨pb, po', none⟩) n c1) ∧ (w'.cell? ⟨pb, po' + bn * 4, none⟩ = some (.int .i64 xa) ∧ w'.cell? ⟨pb, po' + bn * 4 + 1, none⟩ = some (.int .i64 xb) ∧ w'.cell? ⟨pb, po' + bn * 4 + 2, none⟩ = some (.int .i64 nc) ∧ w'.cell? ⟨pb, po' + bn * 4 + 3, none⟩ = some (.int .i64 nd)) ∧ (w'.cell? ⟨pb, po' + i * 4, none⟩ = some (.int .i64 ya) ∧ w'.cell? ⟨pb, po' + i * 4 + 1, none⟩ = some (.int .i64 yb) ∧ w'.cell? ⟨pb, po' + i * 4 + 2, none⟩ = some (.int .i64 nc') ∧ w'.cell? ⟨pb, po' + i * 4 + 3, none⟩ = some (.int .i64 nd')) ∧ Below wr.heap.size wr w')
            (first | exact hkk | exact ⟨kb, ⟨b0, b1, b2, b3'⟩, ⟨i0, i1, i2', i3⟩, below_drewN (Below.refl _ _) 1⟩)
            (first
              | (go_at_call 22; refine (FW.out _ (‹_ ∧ _ ∧ _ ∧ Below wr.heap.size wr _›).2.2.2).mono ?_; rintro e w6 ⟨rfl, hb6⟩; have hB6 := below_tr hb6 (‹_ ∧ _ ∧ _ ∧ Below wr.heap.size wr _›).2.2.2; have hkk := (show _ ∧ (_ ∧ _ ∧ _ ∧ _) ∧ (_ ∧ _ ∧ _ ∧ _) ∧ Below wr.heap.size wr w6 from ⟨below_at hB6 kb, ⟨below_at hB6 b0, below_at hB6 b1, below_at hB6 b2, below_at hB6 b3'⟩, ⟨below_at hB6 i0, below_at hB6 i1, below_at hB6 i2', below_at hB6 i3⟩, hB6⟩)))
          all_goals
            go_wp2
            go_ret2
            exact ⟨below_tr hB6 (below_row HG.out B4.out (fun q e => by cases e; have h1 := HGL.out; have h2 := B2.out.size; omega)), .inl ⟨E.out, rfl⟩⟩
        | true =>
          rw [hf] at FW hfit
          obtain ⟨mm, hmm⟩ : ∃ mm, mm = ms.getD (nd * 8 + nc') 0 := ⟨_, rfl⟩
          rw [← hmm] at MW hmv mb
          have E := hd (show idleF (fitV l ms) (mvV l ms) (fun x => (vs.getD x 0).toNat) (ordO l) (k + 1) = some (la.set vn (i : Int), sm + mm) by
            rw [idleF, HF.out]
            simp only
            rw [← HI.out, HVN.out, Int.toNat_natCast, hbl, if_neg (by omega), Int.toNat_natCast, hfit, if_pos rfl, hmv])
          have hws : IntKind.i64.wrap (sm + mm) = sm + mm := IntWalk.i64_in _ (by omega)
          clear hf hfit hmv SM L hmm
          go_upto_region 11 with fail
          go_region_held3 (fun w' => w'.cell? ⟨w.heap.size, 0, none⟩ = some (.slice (some ⟨pb, po', none⟩) n c1) ∧ (w'.cell? ⟨pb, po' + bn * 4, none⟩ = some (.int .i64 xa) ∧ w'.cell? ⟨pb, po' + bn * 4 + 1, none⟩ = some (.int .i64 xb) ∧ w'.cell? ⟨pb, po' + bn * 4 + 2, none⟩ = some (.int .i64 nc) ∧ w'.cell? ⟨pb, po' + bn * 4 + 3, none⟩ = some (.int .i64 nd)) ∧ (w'.cell? ⟨pb, po' + i * 4, none⟩ = some (.int .i64 ya) ∧ w'.cell? ⟨pb, po' + i * 4 + 1, none⟩ = some (.int .i64 yb) ∧ w'.cell? ⟨pb, po' + i * 4 + 2, none⟩ = some (.int .i64 nc') ∧ w'.cell? ⟨pb, po' + i * 4 + 3, none⟩ = some (.int .i64 nd')) ∧ Below wr.heap.size wr w')
            (first | exact hkk | exact ⟨kb, ⟨b0, b1, b2, b3'⟩, ⟨i0, i1, i2', i3⟩, below_drewN (Below.refl _ _) 1⟩)
            (first
              | (go_at_call 22; refine (FW.out _ (‹_ ∧ _ ∧ _ ∧ Below wr.heap.size wr _›).2.2.2).mono ?_; rintro e w6 ⟨rfl, hb6⟩; have hB6 := below_tr hb6 (‹_ ∧ _ ∧ _ ∧ Below wr.heap.size wr _›).2.2.2; have hkk := (show _ ∧ (_ ∧ _ ∧ _ ∧ _) ∧ (_ ∧ _ ∧ _ ∧ _) ∧ Below wr.heap.size wr w6 from ⟨below_at hB6 kb, ⟨below_at hB6 b0, below_at hB6 b1, below_at hB6 b2, below_at hB6 b3'⟩, ⟨below_at hB6 i0, below_at hB6 i1, below_at hB6 i2', below_at hB6 i3⟩, hB6⟩)))
          all_goals
            clear hB6
            go_upto_region 13 with fail
            go_region_held3 (fun w' => w'.cell? ⟨w.heap.size, 0, none⟩ = some (.slice (some ⟨pb, po', none⟩) n c1) ∧ (w'.cell? ⟨pb, po' + bn * 4, none⟩ = some (.int .i64 xa) ∧ w'.cell? ⟨pb, po' + bn * 4 + 1, none⟩ = some (.int .i64 xb) ∧ w'.cell? ⟨pb, po' + bn * 4 + 2, none⟩ = some (.int .i64 nc) ∧ w'.cell? ⟨pb, po' + bn * 4 + 3, none⟩ = some (.int .i64 nd)) ∧ (w'.cell? ⟨pb, po' + i * 4, none⟩ = some (.int .i64 ya) ∧ w'.cell? ⟨pb, po' + i * 4 + 1, none⟩ = some (.int .i64 yb) ∧ w'.cell? ⟨pb, po' + i * 4 + 2, none⟩ = some (.int .i64 nc') ∧ w'.cell? ⟨pb, po' + i * 4 + 3, none⟩ = some (.int .i64 nd')) ∧ Below wr.heap.size wr w')
              (first | exact hk8 | exact ⟨hkk.1, hkk.2.1, hkk.2.2.1, below_tr (below_drewN (Below.refl _ _) 1) hkk.2.2.2⟩)
              (first
                | (go_at_call 23; refine (MW.out _ (‹_ ∧ _ ∧ _ ∧ Below wr.heap.size wr _›).2.2.2).mono ?_; rintro e w8 ⟨rfl, hb8⟩; have hB8 := below_tr hb8 (‹_ ∧ _ ∧ _ ∧ Below wr.heap.size wr _›).2.2.2; have hk8 := (show _ ∧ (_ ∧ _ ∧ _ ∧ _) ∧ (_ ∧ _ ∧ _ ∧ _) ∧ Below wr.heap.size wr w8 from ⟨below_at hB8 kb, ⟨below_at hB8 b0, below_at hB8 b1, below_at hB8 b2, below_at hB8 b3'⟩, ⟨below_at hB8 i0, below_at hB8 i1, below_at hB8 i2', below_at hB8 i3⟩, hB8⟩)))
            all_goals
              have HL8 := hd (own_below HLW.out hB8)
              have HG8 := hd (HG.out.trans (below_all hB8 (some gl)))
              clear hk8 hkk hB8
              go_wp2_with ((with_reducible refine wpList_store_own _ w2.heap.size 2 1 24 cl gl _ HL8.out size_int vn (.int .i64 (i : Int)) ?_ ?_ ?_ ?_ ?_); exact rfl; exact rfl; exact rfl; omega; intro w9 ho9 hg9)
              go_roundw
              case rel => exact ⟨k + 1, la.set vn (i : Int), sm + mm, by omega, by go_num, by first | rfl | simp, E, by push_cast; omega, hd (by rw [List.map_set]; exact ho9), hd (HG8.out.trans hg9)⟩
              case measure => simp [intOf]; omega
    · obtain rfl : k = n := by omega
      go_wp2
      go_ret2
      exact ⟨below_row HG.out B4.out (fun q e => by cases e; have h1 := HGL.out; have h2 := B2.out.size; omega), .inr ⟨la, sm, HF.out, rfl⟩⟩
end Go.Proofs.Ytdkmloomlnljlaa
