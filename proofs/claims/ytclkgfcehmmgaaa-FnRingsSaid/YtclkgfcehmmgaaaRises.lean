/- Rises along arcs, the reference's side. -/
import Derived.Test.YtclkgfcehmmgaaaProg
import Derived.Test.YtclkgfcehmmgaaaRelax
namespace Go.Proofs.Ytclkgfcehmmgaaa
open Go.RowKit Plain
set_option linter.unusedVariables false
set_option linter.unusedSimpArgs false
attribute [local go_sem ↓] Go.wp_at_zero Go.wp_at_succ

theorem prod_bd {c d lg q : Int} (c0 : 0 ≤ c) (c1 : c ≤ 1000) (d0 : 0 ≤ d) (d1 : d ≤ 10) (l0 : -1000000 ≤ lg) (l1 : lg ≤ 1000000) (q0 : 0 ≤ q) (q1 : q ≤ 1000) : (0 ≤ q * c ∧ q * c ≤ 1000000) ∧ (-10000000 ≤ lg * d ∧ lg * d ≤ 10000000) := by
  have m1 : 0 ≤ q * c := Int.mul_nonneg q0 c0
  have m2 : q * c ≤ 1000 * 1000 := Int.mul_le_mul q1 c1 c0 (by omega)
  have m3 : lg * d ≤ 1000000 * d := Int.mul_le_mul_of_nonneg_right l1 d0
  have m4 : -1000000 * d ≤ lg * d := Int.mul_le_mul_of_nonneg_right l0 d0
  omega
theorem rep_succ' (k : Nat) : (List.replicate k (-1 : Int)).map vi ++ [.int .i64 (-1)] = (List.replicate (k + 1) (-1 : Int)).map vi := by
  rw [List.replicate_succ']; simp [vi]
theorem own_drwN {w : World} {base size n : Nat} {e : TypeId} {v : Value} {xs : List Value} (h : w.ownsRow base e size v n xs) (k : Nat) : (w.drewN k).ownsRow base e size v n xs := h
set_option maxHeartbeats 4000000 in
set_option maxRecDepth 100000 in
theorem rises_any (n : Nat) (v : Value) (l : List Q4) (lg q : Int) (w : World) (n1 : 1 ≤ n) (n2 : n ≤ 12) (hs : Sl w 4 v l.length (q4s l)) (hl : l.length ≤ 32) (ha : ∀ a ∈ l, arcB (n : Int) a = true) (l0 : -1000000 ≤ lg) (l1 : lg ≤ 1000000) (q0 : 0 ≤ q) (q1 : q ≤ 1000) :
    Calls Try.prog 47 #[.int .i64 n, v, .int .i64 lg, .int .i64 q] w fun e w' => Below w.heap.size w w' ∧
      ((fixA (asQ lg q l) n = true ∧ ∃ u, e = .returned (.tuple #[u, .slice none 0 0, .bool true]) ∧ w'.ownsRow w.heap.size 2 1 u n ((tmA (asQ lg q l) n (n - 1)).map vi)) ∨
       (fixA (asQ lg q l) n = false ∧ ∃ u, e = .returned (.tuple #[.slice none 0 0, u, .bool false]) ∧ ∃ (is : List Nat) (xz : List Q4), RingQ l xz ∧ 0 < q * sumQ Q4.c xz - lg * sumQ Q4.d xz ∧ xz = is.map (fun i => l[i]?.getD ⟨0, 0, 0, 0⟩) ∧ (∀ i ∈ is, i < l.length) ∧ w'.ownsRow w.heap.size 2 1 u is.length (is.map fun i : Nat => vi (i : Int)))) := by
  have AG := hd (fun k hk => asQ_get (lg := lg) (q := q) ha l0 l1 q0 q1 (k := k) hk)
  have AV := hd (asQ_in (lg := lg) (q := q) ha)
  have AB := hd (fun r j hr hj v => part_bd (n := n) (asQ_le ha l0 l1 q0 q1) (by rw [asQ_len]; exact hl) r j hr hj v)
  have AL := hd (asQ_len lg q l)
  obtain ⟨A, cap, rfl, hcap, hr⟩ := hs
  have hm0 := hr.2.1
  unfold maxLen at hm0
  have HR := hd hr
  obtain ⟨rz, has⟩ : ∃ rz, rz = asQ lg q l := ⟨_, rfl⟩
  rw [← has] at AG AV AB AL ⊢
  obtain ⟨N, hN⟩ : ∃ N, N = l.length := ⟨_, rfl⟩
  rw [← hN] at AL hl hcap hm0 HR ⊢
  have HN := hd hN
  have WR := hd (fun (v : Nat) (hvn : v < n) (hm : (tmB rz n (n + 1)).m.getD v 0 = n + 1) (d : Nat) (hd1 : 1 ≤ d) (hd2 : d ≤ n) hc => way_ring (l := l) (lg := lg) (q := q) has n1 n2 (Nat.le_succ n) AV.out hvn hm hd1 hd2 hc)
  clear has ha hr hN
  go_enter Try.func47, Try.ntmps47
  go_wp2_with (at_make; go_must (refine wpList_make_int _ rfl _ rfl _ _ n rfl rfl (by omega) ?_); intro w1 ho1 hb1)
  have hst := World.ownsRow_made (size := 1) w1 #[] 0 (Nat.le_refl _) (by unfold maxLen; omega) rfl (e := 2)
  have Ho1 := hd ho1
  have Hb1 := hd hb1
  clear ho1 hb1
  go_loopw [12, 13] (fun cu ix wr => ∃ k : Nat, k ≤ n ∧ ix = .int .i64 k ∧ wr.ownsRow w1.heap.size 2 1 cu k ((List.replicate k (-1 : Int)).map vi) ∧ Below w1.heap.size w1 wr) (fun _ ix _ => n - (intOf ix).toNat)
  case atStart => exact ⟨0, by omega, rfl, by simpa using hst, (Below.refl _ _).alloc (Nat.le_refl _) _⟩
  case round =>
   clear hst
   obtain ⟨k, hk, rfl, ho, hb⟩ := hrel
   by_cases hkn : k < n
   · have Ho := hd ho; have Hb := hd hb
     clear ho hb
     have i1 : (k : Int) < (n : Int) := by omega
     go_wp2_with (at_builtin; go_must (refine wpList_app_int _ _ _ rfl _ _ rfl w1.heap.size k _ _ rfl Ho.out rfl _ rfl rfl (by omega) Hb.out.size ?_); intro v' w2 ho2 hg2 hap)
     go_roundw
     case rel => exact ⟨k + 1, by omega, by go_num, by rw [← rep_succ']; exact ho2, below_row hg2 Hb.out (own_row Ho.out (Nat.le_refl _))⟩
     case measure => simp [intOf]; omega
   · have e : n = k := by omega
     subst e
     have hT0 : TwoRow wr w.heap.size w.heap.size u12 n (tmB rz n 0) := ⟨by have := own_below Ho1.out hb; simpa [tmB, vi] using this, by have := own_mono ho Hb1.out.size; simpa [tmB] using this, dj_new Ho1.out ho⟩
     have hb0 : Below w.heap.size w wr := below_tr hb Hb1.out
     obtain ⟨A2, cap2, rfl, hcap2, _, hA2⟩ := own_rd ho (by unfold maxLen; omega)
     obtain ⟨g2, rfl, hg21, hg22⟩ : ∃ g, A2 = some ⟨g, 0, none⟩ ∧ w1.heap.size ≤ g ∧ g < wr.heap.size := by
       rcases hA2 with ⟨_, h⟩ | h
       · omega
       · exact h
     clear Ho1 Hb1 ho hb hA2 hk hkn
     go_wp2
     go_loopw [14, 15] (fun ch ix wr => ∃ r : Nat, r ≤ n + 1 ∧ ix = .int .i64 r ∧ (∃ c : Int, ch = .int .i64 c ∧ Hid (0 < r → ∃ v : Nat, v < n ∧ c = v ∧ (tmB rz n r).m.getD v 0 = r ∧ (n ≤ r → fixA rz n = false))) ∧ TwoRow wr w.heap.size w.heap.size (.slice (some ⟨g2, 0, none⟩) n cap2) n (tmB rz n r) ∧ Below w.heap.size w wr) (fun _ ix _ => n + 1 - (intOf ix).toNat)
     case atStart => exact ⟨0, by omega, rfl, ⟨-1, rfl, hd (fun h => absurd h (Nat.lt_irrefl 0))⟩, hT0, hb0⟩
     case round =>
      clear hT0 hb0
      obtain ⟨r, hr, rfl, ⟨c, rfl, hch⟩, hT, hb⟩ := hrel
      have HT := hd hT; have HB := hd hb
      clear hT hb
      by_cases hlt : r ≤ n
      · clear hch
        have hli : (r : Int) ≤ (n : Int) := by omega
        go_wp2
        go_loopw [14, 40] (fun ch ix wr => ∃ j : Nat, j ≤ N ∧ ix = .int .i64 j ∧ ch = .int .i64 (chB rz r (tmB rz n r) j) ∧ TwoRow wr w.heap.size w.heap.size (.slice (some ⟨g2, 0, none⟩) n cap2) n (partB rz r (tmB rz n r) j) ∧ Below w.heap.size w wr) (fun _ ix _ => N - (intOf ix).toNat)
        case atStart => exact ⟨0, by omega, rfl, rfl, HT.out, HB.out⟩
        case round =>
          clear HT HB
          obtain ⟨j, hj, rfl, rfl, hT, hb⟩ := hrel
          by_cases hjt : j < N
          · obtain ⟨x, y, qc, qd, hq, hz, hx, hy, ⟨c0, c1⟩, ⟨d0, d1⟩, ri0, ri1⟩ := AG.out j (by rw [← HN.out]; exact hjt)
            have B1 := AB.out r j (by omega) (by rw [AL.out]; omega)
            obtain ⟨S, hS⟩ : ∃ S, S = partB rz r (tmB rz n r) j := ⟨_, rfl⟩
            have UP := hd (fun h => partB_up (r := r) (S := tmB rz n r) hz h)
            have NO := hd (fun h => partB_no (r := r) (S := tmB rz n r) hz h)
            rw [← hS] at hT B1 UP NO
            simp only at UP NO
            obtain ⟨tx, htx⟩ : ∃ tx, tx = S.t.getD x 0 := ⟨_, rfl⟩
            obtain ⟨ty, hty⟩ : ∃ ty, ty = S.t.getD y 0 := ⟨_, rfl⟩
            have bx := B1 x
            have b_y := B1 y
            rw [← htx] at bx UP NO
            rw [← hty] at b_y UP NO
            have PB := prod_bd c0 c1 d0 d1 l0 l1 q0 q1
            obtain ⟨m1, hm1⟩ : ∃ m1, m1 = q * qc := ⟨_, rfl⟩
            obtain ⟨m2, hm2⟩ : ∃ m2, m2 = lg * qd := ⟨_, rfl⟩
            rw [← hm1, ← hm2] at UP NO PB
            have EQ : tx + (m1 - m2) = tx + m1 - m2 := by omega
            rw [EQ] at UP NO
            obtain ⟨⟨p1, p2⟩, ⟨p3, p4⟩⟩ := PB
            have HT := hd hT
            have HB := hd hb
            have hT1 := hT.1
            have cx : wr.cell? ⟨w.heap.size, x, none⟩ = some (.int .i64 tx) := by
              rw [hT1.cellAt x (by omega), List.getElem?_map]
              have hl := hT1.1
              simp at hl
              rw [List.getElem?_eq_getElem (by omega), htx, List.getD_eq_getElem?_getD, List.getElem?_eq_getElem (by omega)]; rfl
            have cy : wr.cell? ⟨w.heap.size, y, none⟩ = some (.int .i64 ty) := by
              rw [hT1.cellAt y (by omega), List.getElem?_map]
              have hl := hT1.1
              simp at hl
              rw [List.getElem?_eq_getElem (by omega), hty, List.getD_eq_getElem?_getD, List.getElem?_eq_getElem (by omega)]; rfl
            obtain ⟨bb, off, qa', qb', qc', qd', rfl, hq', e0, e1, e2, e3⟩ := (HR.out.below hb).q4 hjt
            have bbl := block_lt_of_cell ((show w.cell? ⟨bb, off + j * 4, none⟩ = some (.int .i64 qa') from by
              obtain ⟨b9, o9, _, _, _, _, hA9, hq9, f0, _⟩ := HR.out.q4 hjt
              cases hA9
              have he9 := Option.some.inj (hq9.out.symm.trans hq'.out)
              simp only [Q4.mk.injEq] at he9
              rw [← he9.1]; exact f0))
            have he := Option.some.inj (hq'.out.symm.trans hq)
            simp only [Q4.mk.injEq] at he
            obtain ⟨rfl, rfl, rfl, rfl⟩ := he
            have gsz : w.heap.size < wr.heap.size := block_lt_of_cell cx
            have g2ne : g2 ≠ w.heap.size := fun e => hT.2.2 _ rfl (by rw [e]; rfl)
            have g2ge := (World.ownsRow.lt hT.2.1 g2 rfl).1
            have i1 : (0 : Int) ≤ (j : Int) := by omega
            have i2 : (j : Int) < (N : Int) := by omega
            have i3 : (0 : Int) ≤ (x : Int) := by omega
            have i4 : (x : Int) < (n : Int) := by omega
            have i5 : (0 : Int) ≤ (y : Int) := by omega
            have i6 : (y : Int) < (n : Int) := by omega
            have v1 : IntKind.i64.wrap (q * qc') = m1 := by rw [← hm1]; exact IntWalk.i64_in _ (by omega)
            have v2 : IntKind.i64.wrap (tx + m1) = tx + m1 := IntWalk.i64_in _ (by omega)
            have v3 : IntKind.i64.wrap (lg * qd') = m2 := by rw [← hm2]; exact IntWalk.i64_in _ (by omega)
            have v4 : IntKind.i64.wrap (tx + m1 - m2) = tx + m1 - m2 := IntWalk.i64_in _ (by omega)
            have t1 := hT.1
            have t2 := hT.2.1
            have t3 := hT.2.2
            have HE1 := hd e1
            clear hT hb hT1 hq hz hq' B1 htx hty hm1 hm2 EQ ri0 ri1 c0 c1 d0 d1
            by_cases hup : ty < tx + m1 - m2
            · have HUP := hd (UP.out hup)
              go_wp2
              go_quiet (fail)
              clear v1 v2 v3 v4
              go_wp2_with (first
                | ((with_reducible refine wpList_store_own _ w.heap.size 2 1 n n w.heap.size _ (own_drwN t1 _) size_int y (vi (tx + m1 - m2)) ?_ ?_ ?_ ?_ ?_); exact rfl; exact rfl; exact rfl; omega; intro w6 ho6 hg6; have hc6 := own_kept (own_drwN t2 _) hg6 (dj_symm t3); have y1 := hg6.cell HE1.out (by intro e; have := Option.some.inj e; (try simp only at this); omega))
                | ((with_reducible refine wpList_store_own _ w.heap.size 2 1 n cap2 g2 _ hc6 size_int y (vi (j : Int)) ?_ ?_ ?_ ?_ ?_); exact rfl; exact rfl; exact rfl; omega; intro w7 ho7 hg7; have y2 := hg7.cell y1 (by intro e; have := Option.some.inj e; (try simp only at this); omega)))
              go_roundw
              case rel =>
                refine ⟨j + 1, by omega, by go_num, by rw [HUP.out.2.2], ⟨?_, ?_, t3⟩, ?_⟩
                · rw [HUP.out.1, List.map_set]
                  exact own_kept (u := .slice (some ⟨g2, 0, none⟩) n cap2) ho6 hg7 t3
                · rw [HUP.out.2.1, List.map_set]
                  exact ho7
                · exact below_row hg7 (below_row hg6 (below_drewN HB.out _) (fun k hk => by cases hk; exact Nat.le_refl _)) (fun k hk => by cases hk; omega)
              case measure => simp [intOf]; omega
            · have HNO := hd (NO.out (by omega))
              go_wp2
              go_quiet (fail)
              clear v1 v2 v3 v4
              go_wp2
              go_roundw
              case rel => exact ⟨j + 1, by omega, by go_num, by rw [HNO.out.2], by rw [HNO.out.1]; exact HT.out, below_drewN HB.out _⟩
              case measure => simp [intOf]; omega
          · have e : j = N := by omega
            subst e
            have HT := hd hT; have HB := hd hb
            clear hT hb
            by_cases hc : chB rz r (tmB rz n r) j = -1
            · obtain ⟨f1, f2, f3⟩ := fix_round (r := r) n1 AV.out (by rw [AL.out]; exact hc)
              have HF := hd (And.intro f1 f3)
              have HP := hd (show partB rz r (tmB rz n r) j = tmB rz n (r + 1) by rw [← AL.out, partB_all]; rfl)
              clear f1 f2 f3
              rw [hc]
              clear hc
              go_wp2
              refine bodyPost_ret (by simp [results, Try.results47, go_sem] <;> rfl) rfl ⟨HB.out, .inl ⟨HF.out.1, _, rfl, ?_⟩⟩
              have h := HT.out.1
              rw [HP.out, HF.out.2] at h
              exact h
            · obtain ⟨v, v1, v2, v3⟩ := last_round (r := r) AV.out (by rw [AL.out]; exact hc)
              have NF := hd (fun h => nofix_round (r := r) AV.out h (by rw [AL.out]; exact hc))
              rw [AL.out] at v2
              have HP := hd (show partB rz r (tmB rz n r) j = tmB rz n (r + 1) by rw [← AL.out, partB_all]; rfl)
              have HV := hd v3
              rw [v2]
              have v0 : (0 : Int) ≤ (v : Int) := by omega
              clear hc v2 v3
              go_wp2
              go_roundw
              case rel => exact ⟨r + 1, by omega, by go_num, ⟨v, rfl, hd (fun _ => ⟨v, v1, rfl, HV.out, fun h => NF.out (by omega)⟩)⟩, by rw [← HP.out]; exact HT.out, HB.out⟩
              case measure => simp [intOf]; omega
      · have e : r = n + 1 := by omega
        subst e
        obtain ⟨v, v1, rfl, v3, v4⟩ := hch.out (by omega)
        have HNF := hd (v4 (by omega))
        obtain ⟨BR, d, d1, d2, d3⟩ := back_ring n1 (by omega) AV.out v1 v3
        obtain ⟨S, hS⟩ : ∃ S, S = tmB rz n (n + 1) := ⟨_, rfl⟩
        have WR2 := WR.out v v1 v3
        rw [← hS] at HT BR d3 WR2
        clear hS v3 v4 hch
        obtain ⟨T, hTT⟩ : ∃ T : Nat → Nat, T = itU (backF rz S) v := ⟨_, rfl⟩
        have hT0 : v = T 0 := by rw [hTT]; rfl
        rw [← hTT] at BR d3 WR2
        have WR3 := hd WR2
        clear WR2
        have STEP := hd (show ∀ s, ∃ (i x y : Nat) (c d : Int), S.c.getD (T s) 0 = (i : Int) ∧ l[i]? = some ⟨x, y, c, d⟩ ∧ i < N ∧ x = T (s + 1) ∧ T s < n ∧ T (s + 1) < n from fun s => by
          obtain ⟨i, a, e1, e2, e3, e4⟩ := BR s
          have hi : i < N := by
            have := (List.getElem?_eq_some_iff.1 e2).1
            rw [AL.out] at this
            exact this
          obtain ⟨x, y, c, d, g1, g2, g3, g4, _⟩ := AG.out i (by rw [← HN.out]; exact hi)
          rw [g2] at e2
          have e5 := Option.some.inj e2
          subst e5
          exact ⟨i, x, y, c, d, e1, g1, hi, e4, by rw [← e3]; exact g4, by rw [← e4]; exact g3⟩)
        have HWI := hd (show ∀ s, ∀ i ∈ wayI S T n s, i < N from fun s i hi => by
          simp only [wayI, List.mem_map] at hi
          obtain ⟨j, _, rfl⟩ := hi
          obtain ⟨i, _, _, _, _, e1, _, e3, _⟩ := STEP.out (n + j)
          rw [e1, Int.toNat_natCast]
          exact e3)
        clear BR hTT v1
        obtain ⟨wo, hwo⟩ : ∃ wo : World, wo = wr := ⟨_, rfl⟩
        subst hwo
        have hTW := HT.out
        have hrB := HR.out.below HB.out
        have RD := hd (show ∀ s, ∃ (i x y : Nat) (c d : Int) (bb off : Nat), A = some ⟨bb, off, none⟩ ∧ i < N ∧ x = T (s + 1) ∧ T s < n ∧ T (s + 1) < n ∧ wo.cell? ⟨g2, T s, none⟩ = some (.int .i64 i) ∧ wo.cell? ⟨bb, off + i * 4, none⟩ = some (.int .i64 x) ∧ wo.cell? ⟨bb, off + i * 4 + 1, none⟩ = some (.int .i64 y) ∧ wo.cell? ⟨bb, off + i * 4 + 2, none⟩ = some (.int .i64 c) ∧ wo.cell? ⟨bb, off + i * 4 + 3, none⟩ = some (.int .i64 d) ∧ Hid (S.c.getD (T s) 0 = (i : Int)) from fun s => by
          obtain ⟨i, x, y, c, d, e1, e2, e3, e4, e5, e6⟩ := STEP.out s
          have HH := hd e1
          obtain ⟨bb, off, qa', qb', qc', qd', hA, hq', c0, c1, c2, c3⟩ := hrB.q4 e3
          have he := Option.some.inj (hq'.out.symm.trans e2)
          simp only [Q4.mk.injEq] at he
          obtain ⟨rfl, rfl, rfl, rfl⟩ := he
          refine ⟨i, x, y, _, _, bb, off, hA, e3, e4, e5, e6, ?_, c0, c1, c2, c3, HH⟩
          have ht := hTW.2.1
          rw [ht.cellAt (T s) (by omega), List.getElem?_map]
          have hl := ht.1
          simp at hl
          rw [List.getElem?_eq_getElem (by omega)]
          rw [List.getD_eq_getElem?_getD, List.getElem?_eq_getElem (by omega)] at e1
          simp only [Option.getD_some] at e1
          rw [e1]
          rfl)
        clear STEP hTW hrB
        subst hT0
        have hno : (n : Int) < ((n + 1 : Nat) : Int) := by omega
        go_wp2
        clear hno
        go_loopw [14, 19] (fun ch ix wr => ∃ k : Nat, k ≤ n ∧ ix = .int .i64 k ∧ ch = .int .i64 (T k) ∧ wr = wo) (fun _ ix _ => n - (intOf ix).toNat)
        case atStart => exact ⟨0, by omega, rfl, rfl, rfl⟩
        case round =>
          obtain ⟨k, hk, rfl, rfl, hwr⟩ := hrel
          subst hwr
          by_cases hkt : k < n
          · obtain ⟨i, x, y, c, d', bb, off, rfl, hi, hx, j1, j2, e1, e2, e3, e4, e5, _⟩ := RD.out k
            have i1 : (0 : Int) ≤ (T k : Int) := by omega
            have i2 : (T k : Int) < (n : Int) := by omega
            have i3 : (0 : Int) ≤ (i : Int) := by omega
            have i4 : (i : Int) < (N : Int) := by omega
            have i5 : (k : Int) < (n : Int) := by omega
            go_wp2
            go_roundw
            case rel => exact ⟨k + 1, by omega, by go_num, by rw [← hx], by trivial⟩
            case measure => simp [intOf]; omega
          · have e : n = k := by omega
            subst e
            go_wp2
            obtain ⟨wz, hwz⟩ : ∃ wz : World, wz = wr := ⟨_, rfl⟩
            subst hwz
            have hstart := World.ownsRow_made (size := 1) wz #[] 0 (Nat.le_refl _) (by unfold maxLen; omega) rfl (e := 2)
            go_loopw [20, 21] (fun rg at' wq => ∃ s : Nat, s < d ∧ at' = .int .i64 (T (n + s)) ∧ (∃ g c, rg = .slice (some ⟨g, 0, none⟩) s c ∧ Hid (wq.ownsRow wz.heap.size 2 1 (.slice (some ⟨g, 0, none⟩) s c) s ((wayI S T n s).reverse.map fun i : Nat => vi (i : Int)))) ∧ Below wz.heap.size wz wq) (fun rg _ _ => d - lenV rg)
            case atStart => exact ⟨0, by omega, rfl, ⟨_, _, rfl, hd (by simpa [wayI] using hstart)⟩, (Below.refl _ _).alloc (Nat.le_refl _) _⟩
            case round =>
              clear hstart
              obtain ⟨s, hs, rfl, ⟨g3, c3, rfl, ho'⟩, hb⟩ := hrel
              obtain ⟨i, x, y, c, d', bb, off, hAe, hi, hx, j1, j2, e1, e2, e3, e4, e5, HH⟩ := RD.out (n + s)
              obtain ⟨ys, hys⟩ : ∃ ys : List Int, ys = (wayI S T n s).reverse.map (fun i : Nat => (i : Int)) := ⟨_, rfl⟩
              have ho : wr.ownsRow wz.heap.size 2 1 (.slice (some ⟨g3, 0, none⟩) s c3) s (ys.map vi) := by
                have := ho'.out
                rw [hys, List.map_map]
                exact this
              have HWL := hd (show (wayI S T n (s + 1)).reverse.map (fun i : Nat => vi (i : Int)) = .int .i64 i :: ys.map vi by
                rw [wayI_succ, List.reverse_append, HH.out, Int.toNat_natCast, hys, List.map_map]
                rfl)
              clear hys ho' HH
              subst hAe
              replace e1 := below_at hb e1
              replace e2 := below_at hb e2
              have i1 : (0 : Int) ≤ (T (n + s) : Int) := by omega
              have i2 : (T (n + s) : Int) < (n : Int) := by omega
              have i3 : (0 : Int) ≤ (i : Int) := by omega
              have i4 : (i : Int) < (N : Int) := by omega
              have HX := hd hx
              have HB2 := hd hb
              have hsz := hb.size
              have hd12 : d ≤ 12 := by omega
              have LIT := hd (World.ownsRow_lit (base := wz.heap.size) (e := 2) (size := 1) wr #[.int .i64 i] 1 hsz (by unfold maxLen; omega) rfl)
              have HO2 := hd (ho.alloc (.cells #[.int .i64 i] 2))
              have HBA := hd ((Below.refl wr.heap.size wr).alloc (Nat.le_refl _) (.cells #[.int .i64 i] 2))
              have hsz2 : wz.heap.size ≤ (wr.alloc (.cells #[.int .i64 i] 2)).heap.size := by simp; omega
              have HSZ := hd hsz2
              have HYL := hd ho.1
              obtain ⟨i0, hi0, hz0, hz1, hz2⟩ := info_parts info_int
              have F1 := hd (And.intro e1 e2)
              have gl1 := block_lt_of_cell e1
              have gl2 := block_lt_of_cell e2
              simp only at gl1 gl2
              clear hx hb ho hsz2 e3 e4 e5
              by_cases hend : x = T n
              · have HRQ := hd (WR3.out (s + 1) (by omega) (by omega) (by rw [← hend, HX.out, Nat.add_assoc]))
                subst hend
                go_wp2_with (at_builtin; go_must (refine wpList_append_own _ rfl _ _ 29 rfl wz.heap.size 2 i0 (.int .i64 0) 1 8 Try.underlying29 hi0 hz0 hz1 hz2 rfl (by decide) _ 1 _ rfl LIT.out ⟨g3, 0, none⟩ s c3 (ys.map vi) rfl HYL.out (fun j u hj => World.ownsRow.cells HO2.out (g := g3) rfl j u hj) (by intro u hu; simp at hu; obtain ⟨y, _, rfl⟩ := hu; rfl) (by unfold maxLen; omega) (by omega) HSZ.out ?_); intro v' w6 ho6 hg6 hnil; have k1 := hg6.cell (below_at HBA.out F1.out.1) (by intro e; have := Option.some.inj e; (try simp only at this); omega); have k2 := hg6.cell (below_at HBA.out F1.out.2) (by intro e; have := Option.some.inj e; (try simp only at this); omega))
                refine bodyPost_ret (by simp [results, Try.results47, go_sem] <;> rfl) rfl ⟨?_, .inr ⟨HNF.out, _, rfl, (wayI S T n (s + 1)).reverse, (wayL l S T n (s + 1)).reverse, HRQ.out.1.rev, by rw [sumQ_rev, sumQ_rev]; (have hh := HRQ.out.2; omega), by rw [wayL, List.map_reverse], fun i hi => HWI.out _ i (List.mem_reverse.1 hi), ?_⟩⟩
                rotate_left
                · rw [HWL.out, show (wayI S T n (s + 1)).reverse.length = 1 + s by simp [wayI]; omega]
                  exact own_mono ho6 HB.out.size
                exact below_tr (below_row hg6 (below_tr HBA.out HB2.out) (fun k hk => by cases hk; exact hsz)) HB.out
              · have i6 : ¬ (x : Int) = (T n : Int) := by omega
                go_wp2_with (at_builtin; go_must (refine wpList_append_own _ rfl _ _ 29 rfl wz.heap.size 2 i0 (.int .i64 0) 1 8 Try.underlying29 hi0 hz0 hz1 hz2 rfl (by decide) _ 1 _ rfl LIT.out ⟨g3, 0, none⟩ s c3 (ys.map vi) rfl HYL.out (fun j u hj => World.ownsRow.cells HO2.out (g := g3) rfl j u hj) (by intro u hu; simp at hu; obtain ⟨y, _, rfl⟩ := hu; rfl) (by unfold maxLen; omega) (by omega) HSZ.out ?_); intro v' w6 ho6 hg6 hnil; have k1 := hg6.cell (below_at HBA.out F1.out.1) (by intro e; have := Option.some.inj e; (try simp only at this); omega); have k2 := hg6.cell (below_at HBA.out F1.out.2) (by intro e; have := Option.some.inj e; (try simp only at this); omega))
                have hsd : s + 1 < d := by
                  rcases Nat.lt_or_ge (s + 1) d with h | h
                  · exact h
                  · exfalso
                    have e : s + 1 = d := by omega
                    apply hend
                    rw [HX.out, Nat.add_assoc, e]
                    exact d3
                obtain ⟨A4, cap4, rfl, _, hr4, hA4⟩ := own_rd ho6 (by unfold maxLen; omega)
                obtain ⟨g4, rfl⟩ : ∃ g4, A4 = some ⟨g4, 0, none⟩ := by
                  rcases hA4 with ⟨rfl, _⟩ | ⟨g4, rfl, _⟩
                  · obtain ⟨_, _, h, _⟩ := hr4.2.2 (by omega); cases h
                  · exact ⟨g4, rfl⟩
                clear hr4 hA4 k1 k2
                go_roundw
                case rel =>
                  refine ⟨s + 1, hsd, by rw [HX.out, Nat.add_assoc], ⟨g4, cap4, by rw [Nat.add_comm], hd ?_⟩, below_row hg6 (below_tr HBA.out HB2.out) (fun k hk => by cases hk; exact hsz)⟩
                  first | rw [← List.map_reverse, HWL.out, Nat.add_comm s 1] | rw [HWL.out, Nat.add_comm s 1]
                  exact ho6
                case measure => simp [lenV]; omega
end Go.Proofs.Ytclkgfcehmmgaaa
