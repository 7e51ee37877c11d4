/- The fewest stations: the program's walk. -/
import Derived.Test.YtgjjbnjahombdaaLinD
import Derived.Deep.CutRange
namespace Go.Proofs.Ytgjjbnjahombdaa
open Go.RowKit Plain
set_option linter.unusedVariables false
set_option linter.unusedSimpArgs false
attribute [local go_sem ↓] Go.wp_at_zero Go.wp_at_succ
set_option maxHeartbeats 8000000 in
set_option maxRecDepth 100000 in
theorem fewest_any (b o cp b2 o2 cp2 n c : Nat) (t bf : Nat → Nat) (w : World) (h : FA w b o cp n (fun i => (t i : Int))) (h2 : FA w b2 o2 cp2 n (fun i => (bf i : Int))) (hp : LineP n c t bf) :
    Calls Try.prog 20 #[.slice (some ⟨b, o, none⟩) n cp, .slice (some ⟨b2, o2, none⟩) n cp2, .int .i64 c] w fun r w' => (∃ p, tblR c n t bf (2 ^ n) (2 ^ n - 1) = some p ∧ r = .returned (.int .i64 (p.1 : Nat))) ∧ Below w.heap.size w w' := by
  have n1 := hp.n1
  have n12 := hp.n12
  have cc1 := hp.c1
  obtain ⟨pE, hpE, _⟩ := dp_least (c := c) (t := t) (bf := bf) (K := n) (A := fun i => i) hp.bl n1 (feas_own hp.bl hp.tc)
  have HPE := hd hpE
  have SM := hd (fun D hD e p => run_inv (c := c) (n := n) (t := t) (bf := bf) (G := SmallT c) ⟨by simp, by simp⟩ (small_step hp.tc) D hD e p)
  have SI := hd (fun (T : Tbl) d (hd' : d < 2 ^ n) (h : ∀ e p, T e = some p → SmallT c e p) i hi e p => step_inv (c := c) (n := n) (t := t) (bf := bf) (G := SmallT c) (small_step hp.tc) (T := T) hd' h i hi e p)
  have HT := hd h
  have HBF := hd h2
  have HP := hd hp
  have R0 := hd (show tblR c n t bf 0 = fun e => if e = 0 then some (1, 0) else none from rfl)
  have RS := hd (fun d => (show tblR c n t bf (d + 1) = match tblR c n t bf d d with | none => tblR c n t bf d | some _ => tblS c t bf (tblR c n t bf d) d n from rfl))
  clear h h2 hp hpE
  obtain ⟨R, hR⟩ : ∃ R, R = tblR c n t bf := ⟨_, rfl⟩
  rw [← hR] at HPE SM R0 RS ⊢
  clear hR
  obtain ⟨Z, hZ, eZ, Z1, Z0⟩ := shl_n n n12
  rw [← hZ] at SM SI HPE ⊢
  have HZ := hd hZ
  clear hZ
  have hwz : IntKind.i64.wrap (Z : Int) = (Z : Int) := IntWalk.i64_in _ (by omega)
  have nn0 : ¬ (n : Int) < 0 := by omega
  have z1 : (0 : Int) < (Z : Int) := by omega
  go_enter Try.func20, Try.ntmps20
  go_wp2_with (first
    | (at_make; refine wpList_make_state _ rfl _ rfl _ _ Z rfl rfl (by omega) ?_; intro w2 ho2 hb2)
    | (at_make; go_must (refine wpList_make_bool _ rfl _ rfl _ _ Z rfl rfl (by omega) ?_); intro w3 ho3 hb3)
    | ((with_reducible refine wpList_store_two _ w.heap.size 60 Z Z w.heap.size _ (own_below ho2 hb3) size_state 0 (.int .i64 1) (.int .i64 0) ?_ ?_ ?_ ?_ ?_ ?_); exact rfl; exact rfl; exact rfl; exact rfl; omega; intro w4 ho4 hg4; have HK4 := hd (own_kept (u := .slice (some ⟨w.heap.size, 0, none⟩) Z Z) ho3 hg4 (dj_symm (dj_new ho2 ho3))))
    | ((with_reducible refine wpList_store_own _ w2.heap.size 4 1 Z Z w2.heap.size _ HK4.out size_bool 0 (.bool true) ?_ ?_ ?_ ?_ ?_); exact rfl; exact rfl; exact rfl; omega; intro w5 ho5 hg5))
  have hlt2 := (World.ownsRow.lt ho2 w.heap.size rfl).2
  obtain ⟨gT, hgT⟩ : ∃ gT, gT = w.heap.size := ⟨_, rfl⟩
  obtain ⟨gK, hgK⟩ : ∃ gK, gK = w2.heap.size := ⟨_, rfl⟩
  have hTK : gT < gK := by omega
  have HTB := hd (show TabL w5 w.heap.size gT gK Z (R 0) by
    have e1 := stC_set (Z := Z) (fun _ => none) (1, 0) (k := 0) (by omega)
    have e2 := knC_set (Z := Z) (fun _ => none) (1, 0) (k := 0) (by omega)
    rw [R0.out]
    refine ⟨?_, ?_⟩
    · rw [← e1, hgT]
      exact ho4.kept hg5 (.inr (by simp only [Value.ownBlock, Option.map_some, ne_eq, Option.some.injEq]; omega))
    · rw [← e2, knC_none, hgK]
      exact own_mono ho5 hb2.size)
  have hg4' := hg4
  have HB5 := hd (show Below w.heap.size w w5 from ((below_tr hb3 hb2).grown hg4 (Nat.le_trans hb2.size hb3.size) (fun q e => by cases e; exact Nat.le_refl _)).grown hg5 (Nat.le_trans hb2.size (Nat.le_trans hb3.size hg4.size)) (fun q e => by cases e; exact hb2.size))
  have HSZ := hd (show gK < w5.heap.size by have := (World.ownsRow.lt ho5 w2.heap.size rfl).2; omega)
  rw [← hgT, ← hgK]
  have HGT := hd hgT
  clear ho2 hb2 ho3 hb3 ho4 hg4 ho5 hg5 hg4' HK4 hlt2 hgK hgT hwz z1
  go_loopw [29] (fun dv wr => ∃ d : Nat, d ≤ Z ∧ dv = .int .i64 d ∧ Hid (TabL wr w.heap.size gT gK Z (R d)) ∧ Hid (Below w.heap.size w wr) ∧ Hid (gK < wr.heap.size)) (fun dv _ => Z - (intOf dv).toNat)
  case atStart => exact ⟨0, by omega, rfl, HTB, HB5, HSZ⟩
  case round =>
    clear HTB HB5 HSZ
    obtain ⟨d, hdZ, rfl, HTB, HB, HSZ⟩ := hrel
    by_cases hlt : d < Z
    · have hd2 : (d : Int) < (Z : Int) := Int.ofNat_lt.2 hlt
      have ck := HTB.out.known (e := d) hlt
      have rs := RS.out d
      cases hRd : R d d with
      | none =>
        rw [hRd] at ck rs
        simp only [Option.isSome_none] at ck
        have RSd := hd rs
        clear rs hRd
        go_wp2
        go_roundw
        case rel => exact ⟨d + 1, by omega, by go_num, hd (by rw [RSd.out]; exact HTB.out), HB, HSZ⟩
        case measure => simp [intOf]; omega
      | some p =>
        rw [hRd] at ck rs
        simp only [Option.isSome_some] at ck
        have RSd := hd rs
        have HRd := hd hRd
        have SMd := hd (SM.out d hdZ)
        have hsm := SMd.out d p hRd
        have SId := hd (fun i hi e p => SI.out (R d) d (by omega) SMd.out i hi e p)
        have STEP := hd (fun i => (show tblS c t bf (R d) d (i + 1) = tblU c t bf (tblS c t bf (R d) d i) d i from rfl))
        have LOW := hd (fun i => tblS_low (c := c) (t := t) (bf := bf) (T := R d) (Nat.le_refl d) i)
        have S0 := hd (show tblS c t bf (R d) d 0 = R d from rfl)
        obtain ⟨F, hF⟩ : ∃ F, F = tblS c t bf (R d) d := ⟨_, rfl⟩
        rw [← hF] at RSd SId STEP LOW S0
        rw [hRd] at LOW
        clear rs hRd hF SMd
        have HTF := hd (show TabL wr w.heap.size gT gK Z (F 0) by rw [S0.out]; exact HTB.out)
        clear HTB
        go_wp2
        clear ck
        obtain ⟨wT, hwT⟩ : ∃ wT, wT = wr := ⟨_, rfl⟩
        subst hwT
        go_loopw [39] (fun iv wr => ∃ i : Nat, i ≤ n ∧ iv = .int .i64 i ∧ Hid (TabL wr w.heap.size gT gK Z (F i)) ∧ Hid (Below w.heap.size w wr) ∧ Hid (gK < wr.heap.size)) (fun iv _ => n - (intOf iv).toNat)
        case atStart => exact ⟨0, by omega, rfl, HTF, HB, HSZ⟩
        case round =>
          clear HTF HB HSZ
          obtain ⟨i, hin, rfl, HTB, HB, HSZ⟩ := hrel
          by_cases hi : i < n
          · have hii : (i : Int) < (n : Int) := Int.ofNat_lt.2 hi
            have hti : (i : Int) < 64 := by omega
            have t64 : min i 64 = i := by omega
            have E := i64_bit' d i (by omega) (by omega)
            have cT := (HT.out.below HB.out).cl i hi
            have cB := (HBF.out.below HB.out).cl i hi
            have st := STEP.out i
            have ba : bits .andNot .i64 (bf i : Int) (d : Int) = ((mns (bf i) d : Nat) : Int) := i64_andNot _ _ (by have := HP.out.bl i hi; have := pow_le12 (n := i) (by omega); omega) (by omega)
            cases hbit : d.testBit i with
            | true =>
              rw [hbit, if_pos rfl] at E
              rw [tblU, if_pos (.inl hbit)] at st
              have STi := hd st
              clear hbit st ba
              generalize t i = tk at *
              go_wp2
              go_roundw
              case rel => exact ⟨i + 1, by omega, by go_num, hd (by rw [STi.out]; exact HTB.out), HB, HSZ⟩
              case measure => simp [intOf]; omega
            | false =>
              rw [hbit, if_neg (by simp)] at E
              by_cases hm : mns (bf i) d = 0
              · have hFd := LOW.out i
                have hd3 : d ||| 2 ^ i < Z := by rw [HZ.out]; exact or_lt' (by rw [← HZ.out]; exact hlt) hi
                have hdlt := or_gt hbit
                have hit := HTB.out.one (e := d) hlt
                rw [hFd] at hit
                simp only [Option.getD_some] at hit
                rw [tblU, if_neg (by simp [hbit, hm]), hFd] at st
                simp only at st
                have hbnd := SId.out i (by omega)
                rw [hm] at ba
                have htk := HP.out.tc i hi
                obtain ⟨J, hJ, eJ, J1, J0⟩ := shl_n i (by omega)
                have hwJ : IntKind.i64.wrap (J : Int) = (J : Int) := IntWalk.i64_in _ (by omega)
                have bo : bits .or .i64 (d : Int) (J : Int) = ((d ||| 2 ^ i : Nat) : Int) := by rw [hJ]; exact i64_or _ _ (by omega) (by rw [← hJ]; omega)
                have hnx : nx c p (t i) = if c < p.2 + t i then (p.1 + 1, t i) else (p.1, p.2 + t i) := rfl
                have hsm1 := hsm.1
                have hsm2 := hsm.2
                have ckt := HTB.out.known (e := d ||| 2 ^ i) hd3
                have cot := HTB.out.one (e := d ||| 2 ^ i) hd3
                have HEJ := hd (And.intro eJ (And.intro hwJ bo))
                clear hbit hm hFd hJ eJ hwJ
                obtain ⟨e', he'⟩ : ∃ e', e' = d ||| 2 ^ i := ⟨_, rfl⟩
                rw [← he'] at HEJ st ckt cot hd3 hdlt
                clear he' bo
                obtain ⟨p1, p2⟩ := p
                simp only at hit hnx hsm1 hsm2
                have hlx := hd (show ∀ q old, lxLt q old ↔ (q.1 < old.1 ∨ (q.1 = old.1 ∧ q.2 < old.2)) from fun q old => Iff.rfl)
                obtain ⟨q, hq⟩ : ∃ q, q = nx c (p1, p2) (t i) := ⟨_, rfl⟩
                rw [← hq] at hnx st
                clear hq
                have STi := hd st
                have HNX := hd hnx
                have CKT := hd ckt
                have COT := hd cot
                have BND := hd hbnd
                clear st hnx ckt cot hbnd
                generalize t i = tk at *
                generalize bf i = x at *
                have c1 := hit.1
                have c2 := hit.2
                have hwp : IntKind.i64.wrap ((p2 : Int) + (tk : Int)) = (p2 : Int) + (tk : Int) := IntWalk.i64_in _ (by omega)
                have hde : ((d : Int) < (Z : Int)) := by omega
                clear hit
                go_wp2_with fail
                go_region_held3 (fun w' => w'.cell? ⟨gT, d * 2, none⟩ = some (.int .i64 p1) ∧ w'.cell? ⟨gT, d * 2 + 1, none⟩ = some (.int .i64 p2))
                  (first | go_keep | exact ⟨c1, c2⟩)
                  (first | fail)
                obtain ⟨gB, hgB⟩ : ∃ gB, gB = wr.heap.size := ⟨_, rfl⟩
                have hx1 : (wr.alloc (.cells #[.int .i64 (p1 : Int), .int .i64 ((p2 : Int) + (tk : Int))] 60)).drew.heap[gB]? = some (.cells #[.int .i64 (p1 : Int), .int .i64 ((p2 : Int) + (tk : Int))] 60 (0, 0)) := by
                  show (wr.alloc _).heap[gB]? = _
                  rw [heap_alloc_get, if_pos hgB]
                have hbW : Below wr.heap.size wr (wr.alloc (.cells #[.int .i64 (p1 : Int), .int .i64 ((p2 : Int) + (tk : Int))] 60)).drew := ((Below.refl _ wr).alloc (Nat.le_refl _) _).drew
                rw [← hgB] at hbW ⊢
                obtain ⟨W1, hW1⟩ : ∃ W1, W1 = (wr.alloc (.cells #[.int .i64 (p1 : Int), .int .i64 ((p2 : Int) + (tk : Int))] 60)).drew := ⟨_, rfl⟩
                rw [← hW1] at hx1 hbW ⊢
                have HGB := hd hgB
                have HX1 := hd hx1
                have HW1 := hd hbW
                have cb0 := (cell_of_row W1 gB 0 _ _ _ hx1).trans rfl
                have cb1 := (cell_of_row W1 gB 1 _ _ _ hx1).trans rfl
                clear hW1 hgB hx1 hbW c1 c2
                have hsp1 : IntKind.i64.wrap ((p1 : Int) + 1) = (p1 : Int) + 1 := IntWalk.i64_in _ (by omega)
                by_cases ho : c < p2 + tk
                focus
                  have hoi : (p2 : Int) + (tk : Int) > (c : Int) := by omega
                  have hq := HNX.out
                  rw [if_pos ho] at hq
                  have HQ := hd hq
                  clear hq
                  have hf0 := frozen_of_row W1 gB 0 _ _ HX1.out
                  have hf1 := frozen_of_row _ gB 1 _ _ (heap_setCell_same W1 gB 0 _ _ (.int .i64 ((p1 : Int) + 1)) HX1.out)
                  go_upto_region 16 with fail
                  clear hf0 hf1
                  have hx3 := heap_setCell_same _ gB 1 _ _ (.int .i64 (tk : Int)) (heap_setCell_same W1 gB 0 _ _ (.int .i64 ((p1 : Int) + 1)) HX1.out)
                  have hg3 := (grown_setCell W1 gB 0 (.int .i64 ((p1 : Int) + 1))).trans (grown_setCell _ gB 1 (.int .i64 (tk : Int)))
                  obtain ⟨W3, hW3⟩ : ∃ W3, W3 = (W1.setCell ⟨gB, 0, none⟩ (.int .i64 ((p1 : Int) + 1))).setCell ⟨gB, 1, none⟩ (.int .i64 (tk : Int)) := ⟨_, rfl⟩
                  rw [← hW3] at hx3 hg3 ⊢
                  clear hW3
                  have HX3 := hd (show W3.heap[gB]? = some (.cells #[.int .i64 (q.1 : Int), .int .i64 (q.2 : Int)] 60 (0, 0)) by rw [HQ.out]; simpa using hx3)
                  have HBW3 := hd (show Below wr.heap.size wr W3 by rw [HGB.out] at HW1; exact HW1.out.grown hg3 HW1.out.size (fun k e => by cases e; rw [HGB.out]; exact Nat.le_refl _))
                  clear hx3 hg3 HX1 cb0 cb1 hsp1 hoi HQ
                rotate_left
                focus
                  have hoi : ¬ (p2 : Int) + (tk : Int) > (c : Int) := by omega
                  have hq := HNX.out
                  rw [if_neg ho] at hq
                  have HQ := hd hq
                  clear hq
                  go_upto_region 16 with fail
                  obtain ⟨W3, hW3⟩ : ∃ W3, W3 = W1 := ⟨_, rfl⟩
                  subst hW3
                  have HX3 := hd (show W3.heap[gB]? = some (.cells #[.int .i64 (q.1 : Int), .int .i64 (q.2 : Int)] 60 (0, 0)) by rw [HQ.out]; simpa using HX1.out)
                  have HBW3 := hd (show Below wr.heap.size wr W3 by rw [HGB.out] at HW1; exact HW1.out)
                  clear HX1 cb0 cb1 hsp1 hoi HQ
                all_goals
                  obtain ⟨eJ', hwJ', bo'⟩ := HEJ.out
                  clear ho HNX
                  obtain ⟨q1, q2⟩ := q
                  simp only at HX3
                  obtain ⟨od, hod⟩ : ∃ od, od = F i e' := ⟨_, rfl⟩
                  have HOD := hd hod
                  rw [← hod] at CKT COT STi
                  clear hod
                  have HT3 := hd (HTB.out.below HBW3.out)
                  have HB3 := hd (below_tr HBW3.out HB.out)
                  have HZ3 := hd (Nat.lt_of_lt_of_le HSZ.out HBW3.out.size)
                  have hdj : Dj (.slice (some ⟨gK, 0, none⟩) Z Z) (.slice (some ⟨gT, 0, none⟩) Z Z) := fun k h1 h2 => by
                    simp only [Value.ownBlock, Option.map_some, Option.some.injEq] at h1 h2; omega
                  have cb0 := (cell_of_row W3 gB 0 _ _ _ HX3.out).trans rfl
                  have cb1 := (cell_of_row W3 gB 1 _ _ _ HX3.out).trans rfl
                  have cb0a := fun X => Lib.cell?_alloc_some X cb0
                  have cb1a := fun X => Lib.cell?_alloc_some X cb1
                  have ckt := below_at HBW3.out CKT.out
                  have ct0 := below_at HBW3.out COT.out.1
                  have ct1 := below_at HBW3.out COT.out.2
                  have ckta := fun X => Lib.cell?_alloc_some X ckt
                  have hei : (e' : Int) < (Z : Int) := Int.ofNat_lt.2 hd3
                  clear HTB HB HSZ HBW3 HX3 CKT COT cb0 cb1
                  cases od with
                  | none =>
                    simp only [Option.getD_none, Option.isSome_none] at ckt ct0 ct1 ckta
                    have HTA := hd (show TabL (W3.alloc (.cells #[.int .i64 (0 : Int), .int .i64 (0 : Int)] 60)) w.heap.size gT gK Z (F i) from HT3.out.below ((Below.refl _ W3).alloc (Nat.le_refl _) _))
                    have HBA := hd (show Below w.heap.size w (W3.alloc (.cells #[.int .i64 (0 : Int), .int .i64 (0 : Int)] 60)) from HB3.out.alloc HB3.out.size _)
                    have HZA := hd (show gK < (W3.alloc (.cells #[.int .i64 (0 : Int), .int .i64 (0 : Int)] 60)).heap.size by have := HZ3.out; simp; omega)
                    have STj := hd (show F (i + 1) = fun e => if e = e' then some (q1, q2) else F i e from STi.out)
                    clear STi
                    go_wp2_with (first
                      | ((with_reducible refine wpList_store_two _ w.heap.size 60 Z Z gT _ HTA.out.t size_state e' (.int .i64 (q1 : Int)) (.int .i64 (q2 : Int)) ?_ ?_ ?_ ?_ ?_ ?_); exact rfl; exact rfl; exact rfl; exact rfl; exact hd3; intro W4 ho4 hg4; have HK4 := hd (own_kept (u := .slice (some ⟨gT, 0, none⟩) Z Z) HTA.out.k hg4 hdj))
                      | ((with_reducible refine wpList_store_own _ w.heap.size 4 1 Z Z gK _ HK4.out size_bool e' (.bool true) ?_ ?_ ?_ ?_ ?_); exact rfl; exact rfl; exact rfl; omega; intro W5 ho5 hg5))
                    have HT5 := hd (show TabL W5 w.heap.size gT gK Z (F (i + 1)) by
                      rw [STj.out]
                      refine ⟨?_, ?_⟩
                      · rw [← stC_set (F i) (q1, q2) hd3]
                        exact ho4.kept hg5 (.inr (by simp only [Value.ownBlock, Option.map_some, ne_eq, Option.some.injEq]; omega))
                      · rw [← knC_set (F i) (q1, q2) hd3]; exact ho5)
                    have HB5 := hd ((HBA.out.grown hg4 HBA.out.size (fun k e => by cases e; rw [HGT.out]; exact Nat.le_refl _)).grown hg5 (Nat.le_trans HBA.out.size hg4.size) (fun k e => by cases e; have := HGT.out; omega))
                    have HS5 := hd (Nat.lt_of_lt_of_le HZA.out (Nat.le_trans hg4.size hg5.size))
                    clear ho4 hg4 ho5 hg5 HK4
                    go_roundw
                    case rel => exact ⟨i + 1, by omega, by go_num, HT5, HB5, HS5⟩
                    case measure => simp [intOf]; omega
                  | some old =>
                    obtain ⟨o1, o2⟩ := old
                    simp only [Option.getD_some, Option.isSome_some] at ckt ct0 ct1 ckta
                    have HTA := hd (show TabL (W3.alloc (.cells #[.int .i64 ((o1 : Nat) : Int), .int .i64 ((o2 : Nat) : Int)] 60)) w.heap.size gT gK Z (F i) from HT3.out.below ((Below.refl _ W3).alloc (Nat.le_refl _) _))
                    have HBA := hd (show Below w.heap.size w (W3.alloc (.cells #[.int .i64 ((o1 : Nat) : Int), .int .i64 ((o2 : Nat) : Int)] 60)) from HB3.out.alloc HB3.out.size _)
                    have HZA := hd (show gK < (W3.alloc (.cells #[.int .i64 ((o1 : Nat) : Int), .int .i64 ((o2 : Nat) : Int)] 60)).heap.size by have := HZ3.out; simp; omega)
                    by_cases hx1 : q1 < o1
                    · have STj := hd (show F (i + 1) = fun e => if e = e' then some (q1, q2) else F i e by have := STi.out; simp only at this; rw [if_pos (.inl hx1)] at this; exact this)
                      have hx1i : (q1 : Int) < (o1 : Int) := by omega
                      clear STi hx1
                      go_wp2_with (first
                        | ((with_reducible refine wpList_store_two _ w.heap.size 60 Z Z gT _ HTA.out.t size_state e' (.int .i64 (q1 : Int)) (.int .i64 (q2 : Int)) ?_ ?_ ?_ ?_ ?_ ?_); exact rfl; exact rfl; exact rfl; exact rfl; exact hd3; intro W4 ho4 hg4; have HK4 := hd (own_kept (u := .slice (some ⟨gT, 0, none⟩) Z Z) HTA.out.k hg4 hdj))
                        | ((with_reducible refine wpList_store_own _ w.heap.size 4 1 Z Z gK _ HK4.out size_bool e' (.bool true) ?_ ?_ ?_ ?_ ?_); exact rfl; exact rfl; exact rfl; omega; intro W5 ho5 hg5))
                      have HT5 := hd (show TabL W5 w.heap.size gT gK Z (F (i + 1)) by
                        rw [STj.out]
                        refine ⟨?_, ?_⟩
                        · rw [← stC_set (F i) (q1, q2) hd3]
                          exact ho4.kept hg5 (.inr (by simp only [Value.ownBlock, Option.map_some, ne_eq, Option.some.injEq]; omega))
                        · rw [← knC_set (F i) (q1, q2) hd3]; exact ho5)
                      have HB5 := hd ((HBA.out.grown hg4 HBA.out.size (fun k e => by cases e; rw [HGT.out]; exact Nat.le_refl _)).grown hg5 (Nat.le_trans HBA.out.size hg4.size) (fun k e => by cases e; have := HGT.out; omega))
                      have HS5 := hd (Nat.lt_of_lt_of_le HZA.out (Nat.le_trans hg4.size hg5.size))
                      clear ho4 hg4 ho5 hg5 HK4
                      go_roundw
                      case rel => exact ⟨i + 1, by omega, by go_num, HT5, HB5, HS5⟩
                      case measure => simp [intOf]; omega
                    · have hx1i : ¬ (q1 : Int) < (o1 : Int) := by omega
                      by_cases hx2 : q1 = o1
                      · subst hx2
                        by_cases hx3 : q2 < o2
                        · have STj := hd (show F (i + 1) = fun e => if e = e' then some (q1, q2) else F i e by have := STi.out; simp only at this; rw [if_pos (.inr ⟨rfl, hx3⟩)] at this; exact this)
                          have hx3i : (q2 : Int) < (o2 : Int) := by omega
                          clear STi hx1 hx3
                          go_wp2_with (first
                            | ((with_reducible refine wpList_store_two _ w.heap.size 60 Z Z gT _ HTA.out.t size_state e' (.int .i64 (q1 : Int)) (.int .i64 (q2 : Int)) ?_ ?_ ?_ ?_ ?_ ?_); exact rfl; exact rfl; exact rfl; exact rfl; exact hd3; intro W4 ho4 hg4; have HK4 := hd (own_kept (u := .slice (some ⟨gT, 0, none⟩) Z Z) HTA.out.k hg4 hdj))
                            | ((with_reducible refine wpList_store_own _ w.heap.size 4 1 Z Z gK _ HK4.out size_bool e' (.bool true) ?_ ?_ ?_ ?_ ?_); exact rfl; exact rfl; exact rfl; omega; intro W5 ho5 hg5))
                          have HT5 := hd (show TabL W5 w.heap.size gT gK Z (F (i + 1)) by
                            rw [STj.out]
                            refine ⟨?_, ?_⟩
                            · rw [← stC_set (F i) (q1, q2) hd3]
                              exact ho4.kept hg5 (.inr (by simp only [Value.ownBlock, Option.map_some, ne_eq, Option.some.injEq]; omega))
                            · rw [← knC_set (F i) (q1, q2) hd3]; exact ho5)
                          have HB5 := hd ((HBA.out.grown hg4 HBA.out.size (fun k e => by cases e; rw [HGT.out]; exact Nat.le_refl _)).grown hg5 (Nat.le_trans HBA.out.size hg4.size) (fun k e => by cases e; have := HGT.out; omega))
                          have HS5 := hd (Nat.lt_of_lt_of_le HZA.out (Nat.le_trans hg4.size hg5.size))
                          clear ho4 hg4 ho5 hg5 HK4
                          go_roundw
                          case rel => exact ⟨i + 1, by omega, by go_num, HT5, HB5, HS5⟩
                          case measure => simp [intOf]; omega
                        · have STj := hd (show F (i + 1) = F i by have := STi.out; simp only at this; rw [if_neg (by unfold lxLt; simp only; omega)] at this; exact this)
                          have hx3i : ¬ (q2 : Int) < (o2 : Int) := by omega
                          clear STi hx1 hx3
                          go_wp2
                          go_roundw
                          case rel => exact ⟨i + 1, by omega, by go_num, hd (by rw [STj.out]; exact HTA.out), HBA, HZA⟩
                          case measure => simp [intOf]; omega
                      · have STj := hd (show F (i + 1) = F i by have := STi.out; simp only at this; rw [if_neg (by unfold lxLt; simp only; omega)] at this; exact this)
                        have hx2i : ¬ (q1 : Int) = (o1 : Int) := by omega
                        clear STi hx1 hx2
                        go_wp2
                        go_roundw
                        case rel => exact ⟨i + 1, by omega, by go_num, hd (by rw [STj.out]; exact HTA.out), HBA, HZA⟩
                        case measure => simp [intOf]; omega
              · rw [tblU, if_pos (.inr hm)] at st
                have STi := hd st
                have hm2 : ¬ ((mns (bf i) d : Nat) : Int) = 0 := by omega
                clear hbit st hm
                generalize mns (bf i) d = mm at *
                generalize bf i = x at *
                generalize t i = tk at *
                go_wp2
                go_roundw
                case rel => exact ⟨i + 1, by omega, by go_num, hd (by rw [STi.out]; exact HTB.out), HB, HSZ⟩
                case measure => simp [intOf]; omega
          · obtain rfl : n = i := by omega
            go_wp2
            go_roundw
            case rel => exact ⟨d + 1, by omega, by go_num, hd (by rw [RSd.out]; exact HTB.out), HB, HSZ⟩
            case measure => simp [intOf]; omega
    · obtain rfl : Z = d := by omega
      have hz9 : IntKind.i64.wrap ((Z : Int) - 1) = ((Z - 1 : Nat) : Int) := by rw [IntWalk.i64_in _ (by omega)]; omega
      have hz8 : ((Z - 1 : Nat) : Int) < (Z : Int) := by omega
      have co := (HTB.out.one (e := Z - 1) (by omega)).1
      rw [HPE.out] at co
      simp only [Option.getD_some] at co
      obtain ⟨ze, hze⟩ : ∃ ze, ze = Z - 1 := ⟨_, rfl⟩
      rw [← hze] at hz9 hz8 co
      have HZE := hd hze
      clear hze
      go_wp2
      go_ret
      exact ⟨⟨pE, HPE.out, rfl⟩, HB.out⟩
end Go.Proofs.Ytgjjbnjahombdaa
