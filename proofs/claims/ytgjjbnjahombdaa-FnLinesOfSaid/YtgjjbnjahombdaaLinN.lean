/- Models mixed evenly: the program's MixedOrder and MixedGap, contracts. -/
import Derived.Test.YtgjjbnjahombdaaLinM
import Derived.Test.YtgjjbnjahombdaaLinB
namespace Go.Proofs.Ytgjjbnjahombdaa
open Go.RowKit Plain
set_option linter.unusedVariables false
set_option linter.unusedSimpArgs false
attribute [local go_sem ↓] Go.wp_at_zero Go.wp_at_succ
/-- counts of models -/
structure CntP (n N : Nat) (f : Nat → Nat) : Prop where
  n1 : 1 ≤ n
  n8 : n ≤ 8
  f16 : ∀ i, i < n → f i ≤ 16
  sum : sumN f n = N
  N1 : 1 ≤ N
  N64 : N ≤ 64
set_option maxHeartbeats 400000 in
theorem areCounts_any (b o cp n N : Nat) (f : Nat → Nat) (w : World) (h : FA w b o cp n (fun i => (f i : Int))) (hp : CntP n N f) :
    Calls Try.prog 28 #[.slice (some ⟨b, o, none⟩) n cp] w fun r w' => r = .returned (.bool true) ∧ w' = w := by
  have n1 := hp.n1
  have n8 := hp.n8
  have M := hd (areMany_any _ (fL n fun i => (f i : Int)) 1 8 0 16 w (h.slf (by omega)))
  rw [fL_many (fun i hi => by have := hp.f16 i hi; omega) (by omega) (by omega)] at M
  have SM := hd (sumOf_any b o cp n _ w h (by omega) (fun i hi => by have := hp.f16 i hi; omega))
  rw [sumZ_nat, hp.sum] at SM
  have WI := hd (fun w => within_t (N : Int) 1 64 w (inR_iff.2 ⟨by have := hp.N1; omega, by have := hp.N64; omega⟩))
  clear h
  go_enter Try.func28, Try.ntmps28
  go_wp2_with (first
    | (go_at_call 26; refine M.out.mono ?_; rintro e w' ⟨rfl, hw⟩; subst hw)
    | (go_at_call 22; refine SM.out.mono ?_; rintro e w' ⟨rfl, hw⟩; replace hw := hw.symm; subst hw)
    | (go_at_call 27; refine (WI.out _).mono ?_; rintro e w' ⟨rfl, hw⟩; replace hw := hw.symm; subst hw))
  go_ret
  exact ⟨rfl, rfl⟩
set_option maxHeartbeats 1000000 in
theorem equal_two (U V : Value) (s : List Int) (n : Nat) (n9 : n ≤ 1000) (w : World) (hu : Sl w 1 U n (s.map vi)) (hv : Sl w 1 V n (s.map vi)) :
    Calls Try.prog 30 #[U, V] w fun r w' => r = .returned (.bool true) ∧ ∃ q, w' = w.drewN q := by
  obtain ⟨A, c, rfl, _, hr⟩ := hu
  obtain ⟨A2, c2, rfl, _, hr2⟩ := hv
  have HR := hd hr
  have HR2 := hd hr2
  clear hr hr2
  go_enter Try.func30, Try.ntmps30
  go_wp2
  go_loopw [13] (fun iv wr => ∃ k q : Nat, k ≤ n ∧ iv = .int .i64 k ∧ wr = w.drewN q) (fun iv _ => n - (intOf iv).toNat)
  case atStart => exact ⟨0, 0, by omega, rfl, rfl⟩
  case round =>
    obtain ⟨k, q, hk, rfl, hw⟩ := hrel
    subst hw
    by_cases hlt : k < n
    · have k2 : (k : Int) < (n : Int) := Int.ofNat_lt.2 hlt
      obtain ⟨b, o, rfl, c1⟩ := HR.out.int hlt
      obtain ⟨b', o', rfl, c2⟩ := HR2.out.int hlt
      generalize s.getD k 0 = x at *
      go_wp2_with fail
      go_quiet (fail)
      clear c1 c2
      go_wp2
      go_roundw
      case rel => exact ⟨k + 1, q + nq, by omega, by go_num, by first | rfl | rw [World.drewN_drewN]⟩
      case measure => simp [intOf]; omega
    · go_wp2
      go_ret
      exact ⟨rfl, q, rfl⟩
/-- models mixed evenly -/
def MixOut (n N : Nat) (f : Nat → Nat) (w : World) (r : Ending) (w' : World) : Prop :=
  (∃ g cap od, r = .returned (.tuple #[.slice (some ⟨g, 0, none⟩) N cap, .bool true]) ∧ MixI f n N od N ∧ OwnL w' w.heap.size g N cap (fun j => (od j : Int))) ∧ Below w.heap.size w w'
set_option maxHeartbeats 4000000 in
set_option maxRecDepth 100000 in
theorem MixedOrder_any (b o cp n N : Nat) (f : Nat → Nat) (w : World) (h : FA w b o cp n (fun i => (f i : Int))) (hp : CntP n N f) :
    Calls Try.prog 13 #[.slice (some ⟨b, o, none⟩) n cp] w (MixOut n N f w) := by
  have n1 := hp.n1
  have n8 := hp.n8
  have N1 := hp.N1
  have N64 := hp.N64
  have AC := hd (areCounts_any b o cp n N f w h hp)
  have SM := hd (sumOf_any b o cp n _ w h (by omega) (fun i hi => by have := hp.f16 i hi; omega))
  rw [sumZ_nat, hp.sum] at SM
  have HF := hd h
  have HP := hd hp
  clear h hp
  go_enter Try.func13, Try.ntmps13
  go_wp2_with (first
    | (go_at_call 28; refine AC.out.mono ?_; rintro e w' ⟨rfl, hw⟩; replace hw := hw.symm; subst hw)
    | (go_at_call 22; refine SM.out.mono ?_; rintro e w' ⟨rfl, hw⟩; replace hw := hw.symm; subst hw)
    | (at_make; go_must (refine wpList_make_int _ rfl _ rfl _ _ n rfl rfl (by omega) ?_); intro w2 ho2 hb2))
  clear AC SM
  have lB := (World.ownsRow.lt ho2 w.heap.size rfl).2
  obtain ⟨gB, hgB⟩ : ∃ gB, gB = w.heap.size := ⟨_, rfl⟩
  have hst := World.ownsRow_made (base := w2.heap.size) (size := 1) w2 #[] 0 (Nat.le_refl _) (by unfold maxLen; omega) rfl (e := 2)
  have HB2 := hd (show Below w.heap.size w (w2.alloc (.cells #[] 2)) from hb2.alloc hb2.size _)
  have HBU := hd (show OwnL (w2.alloc (.cells #[] 2)) w.heap.size gB n n (fun i => (cntO (fun _ => 0) 0 i : Int)) by
    have e : fL n (fun i => (cntO (fun _ => 0) 0 i : Int)) = List.replicate n 0 := by rw [← fL_const]; exact fL_same fun s _ => by simp [cntO, ldN]
    unfold OwnL
    rw [e, List.map_replicate, hgB]
    exact own_below ho2 ((Below.refl _ w2).alloc (Nat.le_refl _) _))
  have HOU := hd (show (w2.alloc (.cells #[] 2)).ownsRow w2.heap.size 2 1 (.slice (some ⟨w2.heap.size, 0, none⟩) 0 0) 0 ((fL 0 fun j => (((fun _ => 0 : Nat → Nat) j : Nat) : Int)).map vi) by simpa [fL] using hst)
  have HG0 := hd (show gB < w2.heap.size ∧ w.heap.size ≤ w2.heap.size from ⟨by omega, hb2.size⟩)
  have HSZ := hd (show w2.heap.size ≤ (w2.alloc (.cells #[] 2)).heap.size by simp)
  rw [← hgB]
  have HGB := hd hgB
  clear ho2 hb2 lB hgB hst
  obtain ⟨g0, hg0⟩ : ∃ g0, g0 = w2.heap.size := ⟨_, rfl⟩
  rw [← hg0] at HOU HG0 HSZ
  have HG00 := hd hg0
  clear hg0
  go_loopw [6, 7] (fun ov kv wr => ∃ (k : Nat) (od : Nat → Nat), k ≤ N ∧ kv = .int .i64 ((k : Int) + 1) ∧ Hid (MixI f n N od k) ∧ Hid (OwnL wr w.heap.size gB n n (fun i => (cntO od k i : Int))) ∧ Hid (wr.ownsRow g0 2 1 ov k ((fL k fun j => (od j : Int)).map vi)) ∧ Hid (Below w.heap.size w wr) ∧ Hid (g0 ≤ wr.heap.size)) (fun _ kv _ => N + 1 - (intOf kv).toNat)
  case atStart => exact ⟨0, fun _ => 0, by omega, by simp, hd (MixI.start (by omega)), HBU, by first | exact HOU | (rw [← HG00.out]; exact HOU), HB2, HSZ⟩
  case round =>
    clear HBU HOU HB2 HSZ
    obtain ⟨k, od, hkN, rfl, HM, HBU, HOU, HB, HSZ⟩ := hrel
    by_cases hlt : k < N
    · have k2 : ((k : Int) + 1) ≤ (N : Int) := by omega
      go_wp2
      obtain ⟨wT, hwT⟩ : ∃ wT, wT = wr := ⟨_, rfl⟩
      subst hwT
      go_loopw [8, 9, 29] (fun bv mv iv wr => ∃ (i : Nat) (bb mm : Int), i ≤ n ∧ iv = .int .i64 i ∧ bv = .int .i64 bb ∧ mv = .int .i64 mm ∧ wr = wT ∧ ((bb = -1 ∧ mm = 0 ∧ ∀ j, j < i → ¬ cntO od k j < f j) ∨ ∃ q : Nat, bb = q ∧ q < i ∧ cntO od k q < f q ∧ mm = lateF f N od k q ∧ ∀ j, j < i → cntO od k j < f j → lateF f N od k j ≤ mm)) (fun _ _ iv _ => n - (intOf iv).toNat)
      case atStart => exact ⟨0, -1, 0, by omega, rfl, rfl, rfl, rfl, .inl ⟨rfl, rfl, fun j hj => by omega⟩⟩
      case round =>
        obtain ⟨i, bb, mm, hi, rfl, rfl, rfl, hw, hbb⟩ := hrel
        subst hw
        have HBB := hd hbb
        clear hbb
        by_cases hin : i < n
        · have i2 : (i : Int) < (n : Int) := Int.ofNat_lt.2 hin
          have cF := (HF.out.below HB.out).cl i hin
          have cU := HBU.out.at (i := i) hin
          have hle := HM.out.le i hin
          have hf16 := HP.out.f16 i hin
          have hl : lateF f N od k i = ((k : Int) + 1) * (f i : Int) - (N : Int) * (cntO od k i : Int) := rfl
          have b1 : ((k : Int) + 1) * (f i : Int) ≤ 65 * 16 := Int.mul_le_mul (by omega) (by omega) (by omega) (by omega)
          have b2 : 0 ≤ ((k : Int) + 1) * (f i : Int) := Int.mul_nonneg (by omega) (by omega)
          have b3 : (N : Int) * (cntO od k i : Int) ≤ 65 * 16 := Int.mul_le_mul (by omega) (by omega) (by omega) (by omega)
          have b4 : 0 ≤ (N : Int) * (cntO od k i : Int) := Int.mul_nonneg (by omega) (by omega)
          have hw1 : IntKind.i64.wrap (((k : Int) + 1) * (f i : Int)) = ((k : Int) + 1) * (f i : Int) := IntWalk.i64_in _ (by omega)
          have hw2 : IntKind.i64.wrap ((N : Int) * (cntO od k i : Int)) = (N : Int) * (cntO od k i : Int) := IntWalk.i64_in _ (by omega)
          have hw3 : IntKind.i64.wrap (((k : Int) + 1) * (f i : Int) - (N : Int) * (cntO od k i : Int)) = lateF f N od k i := by rw [hl]; exact IntWalk.i64_in _ (by omega)
          have NOC := hd (fun (hn : ¬ cntO od k i < f i) => (show (bb = -1 ∧ mm = 0 ∧ ∀ j, j < i + 1 → ¬ cntO od k j < f j) ∨ ∃ q : Nat, bb = q ∧ q < i + 1 ∧ cntO od k q < f q ∧ mm = lateF f N od k q ∧ ∀ j, j < i + 1 → cntO od k j < f j → lateF f N od k j ≤ mm from by
            rcases HBB.out with ⟨h1, h2, h3⟩ | ⟨q, h1, h2, h3, h4, h5⟩
            · exact .inl ⟨h1, h2, fun j hj => by
                by_cases e : j = i
                · subst e; exact hn
                · exact h3 j (by omega)⟩
            · exact .inr ⟨q, h1, by omega, h3, h4, fun j hj hc => by
                by_cases e : j = i
                · subst e; exact absurd hc hn
                · exact h5 j (by omega) hc⟩))
          have YES := hd (fun (hc : cntO od k i < f i) (hg : bb = -1 ∨ mm < lateF f N od k i) => (show (((i : Int) = -1 ∧ lateF f N od k i = 0 ∧ ∀ j, j < i + 1 → ¬ cntO od k j < f j) ∨ ∃ q : Nat, (i : Int) = q ∧ q < i + 1 ∧ cntO od k q < f q ∧ lateF f N od k i = lateF f N od k q ∧ ∀ j, j < i + 1 → cntO od k j < f j → lateF f N od k j ≤ lateF f N od k i) from .inr ⟨i, rfl, by omega, hc, rfl, fun j hj hcj => by
            by_cases e : j = i
            · subst e; omega
            · rcases HBB.out with ⟨h1, h2, h3⟩ | ⟨q, h1, h2, h3, h4, h5⟩
              · exact absurd hcj (h3 j (by omega))
              · have := h5 j (by omega) hcj
                rcases hg with hg | hg
                · omega
                · omega⟩))
          have KEEP := hd (fun (hb : bb ≠ -1) (hg : ¬ mm < lateF f N od k i) => (show (bb = -1 ∧ mm = 0 ∧ ∀ j, j < i + 1 → ¬ cntO od k j < f j) ∨ ∃ q : Nat, bb = q ∧ q < i + 1 ∧ cntO od k q < f q ∧ mm = lateF f N od k q ∧ ∀ j, j < i + 1 → cntO od k j < f j → lateF f N od k j ≤ mm from by
            rcases HBB.out with ⟨h1, h2, h3⟩ | ⟨q, h1, h2, h3, h4, h5⟩
            · exact absurd h1 hb
            · exact .inr ⟨q, h1, by omega, h3, h4, fun j hj hc => by
                by_cases e : j = i
                · subst e; omega
                · exact h5 j (by omega) hc⟩))
          have BPOS := hd (show bb = -1 ∨ 0 ≤ bb by rcases HBB.out with ⟨h1, _⟩ | ⟨q, h1, _⟩ <;> omega)
          clear HBB hl b1 b2 b3 b4 hf16
          obtain ⟨lt, hlt'⟩ : ∃ lt, lt = lateF f N od k i := ⟨_, rfl⟩
          rw [← hlt'] at hw3 YES KEEP
          clear hlt'
          by_cases hc : cntO od k i < f i
          · have hci : (cntO od k i : Int) < (f i : Int) := by omega
            clear NOC
            generalize cntO od k i = cn at *
            generalize f i = fi at *
            by_cases hb : bb = -1
            · have Y := hd (YES.out hc (.inl hb))
              subst hb
              clear YES KEEP BPOS
              go_wp2
              go_roundw
              case rel => exact ⟨i + 1, _, _, by omega, by go_num, rfl, rfl, by first | rfl | trivial, Y.out⟩
              case measure => simp [intOf]; omega
            · have hb0 : ¬ bb < 0 := by have := BPOS.out; omega
              by_cases hg : mm < lt
              · have Y := hd (YES.out hc (.inr hg))
                have hgi : lt > mm := hg
                clear YES KEEP BPOS
                go_wp2
                go_roundw
                case rel => exact ⟨i + 1, _, _, by omega, by go_num, rfl, rfl, by first | rfl | trivial, Y.out⟩
                case measure => simp [intOf]; omega
              · have Y := hd (KEEP.out hb hg)
                have hgi : ¬ lt > mm := hg
                clear YES KEEP BPOS
                go_wp2
                go_roundw
                case rel => exact ⟨i + 1, _, _, by omega, by go_num, rfl, rfl, by first | rfl | trivial, Y.out⟩
                case measure => simp [intOf]; omega
          · have Y := hd (NOC.out hc)
            have hci : ¬ (cntO od k i : Int) < (f i : Int) := by omega
            clear YES KEEP NOC BPOS
            generalize cntO od k i = cn at *
            generalize f i = fi at *
            go_wp2
            go_roundw
            case rel => exact ⟨i + 1, _, _, by omega, by go_num, rfl, rfl, by first | rfl | trivial, Y.out⟩
            case measure => simp [intOf]; omega
        · obtain rfl : n = i := by omega
          obtain ⟨i0, hi0, hc0, hl0⟩ := HM.out.some HP.out.sum hlt
          rcases HBB.out with ⟨h1, h2, h3⟩ | ⟨q, rfl, h2, h3, h4, h5⟩
          · exact absurd hc0 (h3 i0 hi0)
          · have hql : 0 < lateF f N od k q := by have := h5 i0 hi0 hc0; omega
            have HMN := hd (HM.out.next h2 h3 hql)
            have cU := HBU.out.at (i := q) h2
            have q2 : (q : Int) < (n : Int) := by omega
            have q0 : ¬ (q : Int) < 0 := by omega
            have hf16 := HP.out.f16 q h2
            have hw1 : IntKind.i64.wrap ((cntO od k q : Int) + 1) = (cntO od k q : Int) + 1 := IntWalk.i64_in _ (by omega)
            have CN1 := hd (fun i => (show cntO (fun j => if j = k then q else od j) (k + 1) i = cntO od k i + if q = i then 1 else 0 by
              rw [cntO_succ, if_pos rfl, cntO_same (v := od) fun j hj => by rw [if_neg (by omega)]]))
            obtain ⟨cq, hcq⟩ : ∃ cq, cq = cntO od k q := ⟨_, rfl⟩
            rw [← hcq] at cU hw1
            have HCQ := hd hcq
            have hwk : IntKind.i64.wrap ((k : Int) + 1 + 1) = (k : Int) + 1 + 1 := IntWalk.i64_in _ (by omega)
            clear HBB h3 h4 h5 hl0 hc0 hql hcq hf16
            go_wp2_with (first
              | ((with_reducible refine wpList_store_own _ w.heap.size 2 1 n n gB _ HBU.out size_int q (.int .i64 ((cq : Int) + 1)) ?_ ?_ ?_ ?_ ?_); exact rfl; exact rfl; exact rfl; omega; intro w7 ho7 hg7; have HU7 := hd ((OwnL.set ho7 h2).same (f' := fun i => (cntO (fun j => if j = k then q else od j) (k + 1) i : Int)) fun i _ => by
                  rw [CN1.out]
                  by_cases e : i = q
                  · subst e; rw [if_pos rfl, if_pos rfl, HCQ.out]; push_cast; rfl
                  · rw [if_neg e, if_neg (fun h => e h.symm)]; rfl); have HO7 := hd (HOU.out.kept hg7 (by cases hov : Value.ownBlock _ with | none => exact .inl rfl | some z => exact .inr (by rw [← hov]; intro e9; have := own_row HOU.out (Nat.le_refl _) gB e9; have := HG0.out; omega))); have HB7 := hd (HB.out.grown hg7 HB.out.size (fun z e => by cases e; rw [HGB.out]; exact Nat.le_refl _)); have HS7 := hd (Nat.le_trans HSZ.out hg7.size); clear ho7 hg7)
              | (at_builtin; go_must (refine wpList_app_int _ _ _ rfl _ _ rfl g0 k _ _ rfl HO7.out rfl _ rfl (by simp) (by omega) HS7.out ?_); intro v' wa ho1 hg1 hap))
            have HUA := hd (HU7.out.kept hg1 (.inr (by
              simp only [Value.ownBlock, Option.map_some]
              intro e9
              have := own_row HO7.out (Nat.le_refl _) gB e9.symm
              have := HG0.out
              omega)))
            have HOA := hd (show wa.ownsRow g0 2 1 v' (k + 1) ((fL (k + 1) fun j => (((if j = k then q else od j) : Nat) : Int)).map vi) by
              rw [fL_succ, List.map_append, fL_same (v := fun j => (od j : Int)) fun j hj => by rw [if_neg (by omega)]]
              simp only [if_true, List.map_cons, List.map_nil]
              exact ho1)
            have HBA := hd (below_row hg1 HB7.out (fun z e9 => Nat.le_trans HG0.out.2 (own_row HO7.out (Nat.le_refl _) z e9)))
            have HSA := hd (Nat.le_trans HS7.out hg1.size)
            clear ho1 hg1 hap
            go_roundw
            case rel => exact ⟨k + 1, _, by omega, by push_cast; rfl, HMN, HUA, HOA, HBA, HSA⟩
            case measure => simp [intOf]; omega
    · obtain rfl : N = k := by omega
      have k2 : ¬ ((N : Int) + 1) ≤ (N : Int) := by omega
      obtain ⟨g, cap, rfl, hg1, _⟩ := own_form HOU.out N1
      go_wp2
      go_ret2
      exact ⟨⟨g, cap, od, rfl, HM.out, own_mono HOU.out HG0.out.2⟩, HB.out⟩
theorem run_max3 (ts : Array TypeId) (t : TypeId) (a b c : Int) (w : World) : (Builtin.max_ ts t #[.int .i64 a, .int .i64 b, .int .i64 c]).run Try.prog w = .ok (.int .i64 (max (max a b) c)) w := by
  simp only [Builtin.max_, List.foldlM_cons, List.foldlM_nil, Builtin.max2]
  by_cases h : a < b
  · by_cases h2 : b < c
    · rw [show max (max a b) c = c by omega]; simp [go_sem, h, h2]
    · rw [show max (max a b) c = b by omega]; simp [go_sem, h, h2]
  · by_cases h2 : a < c
    · rw [show max (max a b) c = c by omega]; simp [go_sem, h, h2]
    · rw [show max (max a b) c = a by omega]; simp [go_sem, h, h2]
set_option maxHeartbeats 4000000 in
set_option maxRecDepth 100000 in
theorem MixedGap_any (b o cp b2 o2 cp2 n N : Nat) (f od : Nat → Nat) (w : World) (h : FA w b o cp n (fun i => (f i : Int))) (h2 : FA w b2 o2 cp2 N (fun j => (od j : Int))) (hp : CntP n N f) (hod : ∀ j, j < N → od j < n) (hall : ∀ i, i < n → cntO od N i = f i) :
    Calls Try.prog 14 #[.slice (some ⟨b, o, none⟩) n cp, .slice (some ⟨b2, o2, none⟩) N cp2] w fun r w' => (∃ g : Int, r = .returned (.tuple #[.int .i64 g, .bool true]) ∧ 0 ≤ g ∧ (g = 0 ∨ ∃ k i, k ≤ N ∧ i < n ∧ (g = lagF f N od k i ∨ g = -lagF f N od k i))) ∧ Below w.heap.size w w' := by
  have n1 := hp.n1
  have n8 := hp.n8
  have N1 := hp.N1
  have N64 := hp.N64
  have AC := hd (areCounts_any b o cp n N f w h hp)
  have SM := hd (fun w' (hb : Below w.heap.size w w') => sumOf_any b o cp n _ w' (h.below hb) (by omega) (fun i hi => by have := hp.f16 i hi; omega))
  rw [sumZ_nat, hp.sum] at SM
  have AW := hd (areWithin_any _ (fL N fun j => (od j : Int)) 0 ((n : Int) - 1) w (h2.slf (by omega)))
  rw [fL_all (fun j hj => by have := hod j hj; omega)] at AW
  have hwn : IntKind.i64.wrap ((n : Int) - 1) = (n : Int) - 1 := IntWalk.i64_in _ (by omega)
  have hNN : ((N : Int) != (N : Int)) = false := by simp
  have HF := hd h
  have HO2 := hd h2
  have HP := hd hp
  have HOD := hd hod
  have HALL := hd hall
  have CB := hd (fun k (hk : k ≤ N) i => (show cntO od k i ≤ 64 by
    have key : ∀ m, cntO od m i ≤ m := fun m => by
      induction m with
      | zero => simp [cntO, ldN]
      | succ m ih => rw [cntO_succ]; split <;> omega
    have := key k; omega))
  clear h h2 hp hod hall
  go_enter Try.func14, Try.ntmps14
  go_wp2_with (first
    | (go_at_call 28; refine AC.out.mono ?_; rintro e w' ⟨rfl, hw⟩; replace hw := hw.symm; subst hw)
    | (go_at_call 22; refine (SM.out w (Below.refl _ _)).mono ?_; rintro e w' ⟨rfl, hw⟩; replace hw := hw.symm; subst hw)
    | (go_at_call 29; refine AW.out.mono ?_; rintro e w' ⟨rfl, hw⟩; subst hw)
    | (at_make; go_must (refine wpList_make_int _ rfl _ rfl _ _ n rfl rfl (by omega) ?_); intro w2 ho2 hb2))
  clear AC SM AW hwn hNN
  obtain ⟨gB, hgB⟩ : ∃ gB, gB = w.heap.size := ⟨_, rfl⟩
  have lB := (World.ownsRow.lt ho2 w.heap.size rfl).2
  have HB2 := hd hb2
  have HBU := hd (show OwnL w2 w.heap.size gB n n (fun i => (cntO od 0 i : Int)) by
    have e : fL n (fun i => (cntO od 0 i : Int)) = List.replicate n 0 := by rw [← fL_const]; exact fL_same fun s _ => by simp [cntO, ldN]
    unfold OwnL
    rw [e, List.map_replicate, hgB]
    exact ho2)
  rw [← hgB]
  have HGB := hd hgB
  clear ho2 hb2 lB hgB
  go_loopw [8, 39] (fun gv kv wr => ∃ (k : Nat) (g : Int), k ≤ N ∧ kv = .int .i64 k ∧ gv = .int .i64 g ∧ 0 ≤ g ∧ g ≤ 10000 ∧ Hid (g = 0 ∨ ∃ k' i, k' ≤ k ∧ i < n ∧ (g = lagF f N od k' i ∨ g = -lagF f N od k' i)) ∧ Hid (OwnL wr w.heap.size gB n n (fun i => (cntO od k i : Int))) ∧ Hid (Below w.heap.size w wr)) (fun _ kv _ => N - (intOf kv).toNat)
  case atStart => exact ⟨0, 0, by omega, rfl, rfl, by omega, by omega, hd (.inl rfl), HBU, HB2⟩
  case round =>
    clear HBU HB2
    obtain ⟨k, g, hkN, rfl, rfl, hg0, hg1, HG, HBU, HB⟩ := hrel
    by_cases hlt : k < N
    · have k2 : (k : Int) < (N : Int) := Int.ofNat_lt.2 hlt
      have cO := (HO2.out.below HB.out).cl k hlt
      have hm := HOD.out k hlt
      obtain ⟨m, hme⟩ : ∃ m, m = od k := ⟨_, rfl⟩
      rw [← hme] at cO hm
      have cU := HBU.out.at (i := m) hm
      have m2 : (m : Int) < (n : Int) := Int.ofNat_lt.2 hm
      have hcb := CB.out k hkN m
      obtain ⟨cm, hcm⟩ : ∃ cm, cm = cntO od k m := ⟨_, rfl⟩
      rw [← hcm] at cU hcb
      have HCM := hd hcm
      have HME := hd hme
      have hw1 : IntKind.i64.wrap ((cm : Int) + 1) = (cm : Int) + 1 := IntWalk.i64_in _ (by omega)
      clear hcm hme
      go_wp2_with ((with_reducible refine wpList_store_own _ w.heap.size 2 1 n n gB _ HBU.out size_int m (.int .i64 ((cm : Int) + 1)) ?_ ?_ ?_ ?_ ?_); exact rfl; exact rfl; exact rfl; omega; intro w7 ho7 hg7)
      have HU7 := hd ((OwnL.set ho7 hm).same (f' := fun i => (cntO od (k + 1) i : Int)) fun i _ => by
        rw [cntO_succ, ← HME.out]
        by_cases e : i = m
        · subst e; rw [if_pos rfl, if_pos rfl, HCM.out]; push_cast; rfl
        · rw [if_neg e, if_neg (fun h => e h.symm)]; rfl)
      have HB7 := hd (HB.out.grown hg7 HB.out.size (fun z e => by cases e; rw [HGB.out]; exact Nat.le_refl _))
      have HG7 := hd (show g = 0 ∨ ∃ k' i, k' ≤ k + 1 ∧ i < n ∧ (g = lagF f N od k' i ∨ g = -lagF f N od k' i) by
        rcases HG.out with h | ⟨k', i, h1, h2, h3⟩
        · exact .inl h
        · exact .inr ⟨k', i, by omega, h2, h3⟩)
      clear ho7 hg7 hw1 cO cU HG HBU HB
      go_wp2_with fail
      go_loopw [8, 52] (fun gv iv wr => ∃ (i : Nat) (g : Int), i ≤ n ∧ iv = .int .i64 i ∧ gv = .int .i64 g ∧ 0 ≤ g ∧ g ≤ 10000 ∧ Hid (g = 0 ∨ ∃ k' i, k' ≤ k + 1 ∧ i < n ∧ (g = lagF f N od k' i ∨ g = -lagF f N od k' i)) ∧ wr = w7) (fun _ iv _ => n - (intOf iv).toNat)
      case atStart => exact ⟨0, g, by omega, rfl, rfl, hg0, hg1, HG7, rfl⟩
      case round =>
        clear HG7 hg0 hg1
        obtain ⟨i, g, hi, rfl, rfl, hg0, hg1, HG, hw⟩ := hrel
        subst hw
        by_cases hin : i < n
        · have i2 : (i : Int) < (n : Int) := Int.ofNat_lt.2 hin
          have cF := (HF.out.below HB7.out).cl i hin
          have cU := HU7.out.at (i := i) hin
          have hf16 := HP.out.f16 i hin
          have hcb := CB.out (k + 1) (by omega) i
          have hl : lagF f N od (k + 1) i = ((k : Int) + 1) * (f i : Int) - (N : Int) * (cntO od (k + 1) i : Int) := by rw [lagF]; push_cast; rfl
          have b1 : ((k : Int) + 1) * (f i : Int) ≤ 65 * 16 := Int.mul_le_mul (by omega) (by omega) (by omega) (by omega)
          have b2 : 0 ≤ ((k : Int) + 1) * (f i : Int) := Int.mul_nonneg (by omega) (by omega)
          have b3 : (N : Int) * (cntO od (k + 1) i : Int) ≤ 64 * 64 := Int.mul_le_mul (by omega) (by omega) (by omega) (by omega)
          have b4 : 0 ≤ (N : Int) * (cntO od (k + 1) i : Int) := Int.mul_nonneg (by omega) (by omega)
          have hw0 : IntKind.i64.wrap ((k : Int) + 1) = (k : Int) + 1 := IntWalk.i64_in _ (by omega)
          have hw1 : IntKind.i64.wrap (((k : Int) + 1) * (f i : Int)) = ((k : Int) + 1) * (f i : Int) := IntWalk.i64_in _ (by omega)
          have hw2 : IntKind.i64.wrap ((N : Int) * (cntO od (k + 1) i : Int)) = (N : Int) * (cntO od (k + 1) i : Int) := IntWalk.i64_in _ (by omega)
          have hw3 : IntKind.i64.wrap (((k : Int) + 1) * (f i : Int) - (N : Int) * (cntO od (k + 1) i : Int)) = lagF f N od (k + 1) i := by rw [hl]; exact IntWalk.i64_in _ (by omega)
          have hw4 : IntKind.i64.wrap (-lagF f N od (k + 1) i) = -lagF f N od (k + 1) i := IntWalk.i64_in _ (by omega)
          have hlb : -10000 ≤ lagF f N od (k + 1) i ∧ lagF f N od (k + 1) i ≤ 10000 := by omega
          have HGN := hd (show max (max g (lagF f N od (k + 1) i)) (-lagF f N od (k + 1) i) = 0 ∨ ∃ k' i', k' ≤ k + 1 ∧ i' < n ∧ (max (max g (lagF f N od (k + 1) i)) (-lagF f N od (k + 1) i) = lagF f N od k' i' ∨ max (max g (lagF f N od (k + 1) i)) (-lagF f N od (k + 1) i) = -lagF f N od k' i') by
            by_cases h1 : g < lagF f N od (k + 1) i ∨ g < -lagF f N od (k + 1) i
            · exact .inr ⟨k + 1, i, Nat.le_refl _, hin, by omega⟩
            · have e : max (max g (lagF f N od (k + 1) i)) (-lagF f N od (k + 1) i) = g := by omega
              rw [e]; exact HG.out)
          have hmx := fun ts t w => run_max3 ts t g (lagF f N od (k + 1) i) (-lagF f N od (k + 1) i) w
          clear hl b1 b2 b3 b4 hcb hf16
          generalize lagF f N od (k + 1) i = lg at *
          have HMX := hd (show 0 ≤ max (max g lg) (-lg) ∧ max (max g lg) (-lg) ≤ 10000 by omega)
          obtain ⟨gn, hgn⟩ : ∃ gn, gn = max (max g lg) (-lg) := ⟨_, rfl⟩
          rw [← hgn] at hmx HMX HGN
          generalize cntO od (k + 1) i = cn at *
          generalize f i = fi at *
          clear hgn hlb
          go_wp2
          go_roundw
          case rel => exact ⟨i + 1, gn, by omega, by go_num, rfl, HMX.out.1, HMX.out.2, HGN, by first | rfl | trivial⟩
          case measure => simp [intOf]; omega
        · obtain rfl : n = i := by omega
          go_wp2
          go_roundw
          case rel => exact ⟨k + 1, g, by omega, by go_num, rfl, hg0, hg1, HG, HU7, HB7⟩
          case measure => simp [intOf]; omega
    · obtain rfl : N = k := by omega
      have HFU := (HBU.out.same (f' := fun i => (f i : Int)) fun i hi => by rw [HALL.out i hi]).fa (by omega)
      have EQ := hd (equal_two _ _ (fL n fun i => (f i : Int)) n (by omega) wr (HFU.sl (by omega)) ((HF.out.below HB.out).sl (by omega)))
      clear HFU
      go_wp2_with (go_at_call 30; refine EQ.out.mono ?_; rintro e w9 ⟨rfl, q, hw9⟩; have HB9 := hd (show Below w.heap.size w w9 by rw [hw9]; exact below_drewN HB.out q); clear hw9)
      go_ret2
      exact ⟨⟨g, rfl, hg0, HG.out⟩, HB9.out⟩
end Go.Proofs.Ytgjjbnjahombdaa
