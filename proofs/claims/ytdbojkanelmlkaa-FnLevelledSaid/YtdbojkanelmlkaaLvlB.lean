/- The greatest start by the reference, and plans made level, on both sides: contracts. -/
import Derived.Test.YtdbojkanelmlkaaLvlA
import Derived.Test.YtdbojkanelmlkaaProD
import Derived.Test.YtdbojkanelmlkaaMaxMin
import Derived.Test.YtdbojkanelmlkaaProI
namespace Go.Proofs.Ytdbojkanelmlkaa
open Go.RowKit Plain
set_option linter.unusedVariables false
set_option linter.unusedSimpArgs false
attribute [local go_sem ↓] Go.wp_at_zero Go.wp_at_succ
theorem minT_any (a b : Int) (w : World) : Calls Try.prog 35 #[.int .i64 a, .int .i64 b] w fun r w' => r = .returned (.int .i64 (if b < a then b else a)) ∧ w' = w := by
  exact (l00Min_any a b w).mono fun r w' h => ⟨by rw [h.1, min_ifT], h.2.symm⟩
theorem first_uniq {i : Nat} {t : TK} (ht : TaskOk i t) {k : Nat} (hk : k < t.bf.length) {x : Int} (e : t.bf.getD k 0 = x) : ¬ 0 ≤ firstI t.bf x k := fun h => by
  have h1 := firstI_at h
  have h2 := ht.mono _ _ h1.1 hk
  omega
/-- by the first k of those before a task -/
def gF (t : TK) (x z y ta : Int) (k : Nat) : Int := if 0 ≤ firstI t.bf x k then min z (y - t.lg.getD (firstI t.bf x k).toNat 0 - ta) else z
theorem gF_zero (t : TK) (x z y ta : Int) : gF t x z y ta 0 = z := by rw [gF, firstI, if_neg (by omega)]
theorem gF_hit {i : Nat} {t : TK} (ht : TaskOk i t) {x z y ta : Int} {k : Nat} (hk : k < t.bf.length) (e : t.bf.getD k 0 = x) : gF t x z y ta k = z ∧ gF t x z y ta (k + 1) = min z (y - t.lg.getD k 0 - ta) := by
  have h := first_uniq ht hk e
  refine ⟨by rw [gF, if_neg h], ?_⟩
  rw [gF, firstI, if_neg h, if_pos e, if_pos (by omega), Int.toNat_natCast]
theorem gF_miss {t : TK} {x z y ta : Int} {k : Nat} (e : ¬ t.bf.getD k 0 = x) : gF t x z y ta (k + 1) = gF t x z y ta k := by
  rw [gF, gF, firstI]
  by_cases h : 0 ≤ firstI t.bf x k
  · rw [if_pos h]
  · rw [if_neg h, if_neg e, if_neg (by omega), if_neg h]
set_option maxHeartbeats 4000000 in
theorem l03Greatest_any (b o c : Nat) (ts : List TK) (n : Nat) (w : World) (h : TA w b o c ts n) (V : Value) (s : List Int) (hs : SA w V s n (-100000) 200000) (i : Nat) (hi : i < n) (e : Int) (e0 : 0 ≤ e) (e1 : e ≤ 100000) :
    Calls Try.prog 26 #[.slice (some ⟨b, o, none⟩) n c, V, .int .i64 i, .int .i64 e] w (Draws (.int .i64 (lateF ts (fun j => s.getD j 0) i e (n - 1 - i))) w) := by
  have HT := hd h
  have HS := hd hs
  have n9 := h.n9
  have hnc := h.nc
  obtain ⟨AV, cV, rfl, hcV, hr⟩ := hs.sl
  have HR := hd hr
  have hi2 : (i : Int) < (n : Int) := Int.ofNat_lt.2 hi
  have ca0 := (h.cl i hi).choose_spec.choose_spec.choose_spec.choose_spec.1
  have LB := hd (fun m (hm : i + m < n) => lateF_bd h.ok (st := fun j => s.getD j 0) (e := e) (B := -100000) m hm e0 (by omega) (fun j h1 h2 => (hs.bd j (by omega)).1))
  have LS := hd (fun m => (show lateF ts (fun j => s.getD j 0) i e (m + 1) = gF (tkAt ts (i + 1 + m)) (i : Int) (lateF ts (fun j => s.getD j 0) i e m) (s.getD (i + 1 + m) 0) (tkAt ts i).a (tkAt ts (i + 1 + m)).bf.length from rfl))
  have L0 := hd (show lateF ts (fun j => s.getD j 0) i e 0 = e - (tkAt ts i).a from rfl)
  have a0 := (h.ok i hi).a0
  have a1 := (h.ok i hi).a1
  generalize lateF ts (fun j => s.getD j 0) i e = L at *
  obtain ⟨ta, hta⟩ : ∃ ta, ta = (tkAt ts i).a := ⟨_, rfl⟩
  rw [← hta] at L0 a0 a1 ca0 LS
  have we : IntKind.i64.wrap (e - ta) = e - ta := IntWalk.i64_in _ (by omega)
  obtain ⟨i1, hi1⟩ : ∃ i1, i1 = i + 1 := ⟨_, rfl⟩
  have HI1 := hd hi1
  have hwi : IntKind.i64.wrap ((i : Int) + 1) = (i1 : Int) := by rw [IntWalk.i64_in _ (by omega), hi1]; push_cast; rfl
  clear h hs hr hta hi1
  go_enter Try.func26, Try.ntmps26
  go_wp2
  go_loopw [9, 10] (fun av jv wr => ∃ (j m q : Nat), j ≤ n ∧ Hid (j = i + 1 + m) ∧ jv = .int .i64 j ∧ av = .int .i64 (L m) ∧ wr = w.drewN q) (fun _ jv _ => n - (intOf jv).toNat)
  case atStart => exact ⟨i1, 0, 0, by have := HI1.out; omega, hd (by have := HI1.out; omega), rfl, by rw [L0.out], rfl⟩
  case round =>
    clear we hwi
    obtain ⟨j, m, q, hjle, HJ, rfl, rfl, hwr⟩ := hrel
    subst hwr
    have ls := LS.out m
    rw [← HJ.out] at ls
    by_cases hjn : j < n
    · have hm : i + m < n := by have := HJ.out; omega
      have hm1 : i + (m + 1) < n := by have := HJ.out; omega
      have lb := LB.out m hm
      have hj2 : (j : Int) < (n : Int) := Int.ofNat_lt.2 hjn
      obtain ⟨Ab, cb, Al, cl, _, _, c2, c3, hb, hl, hcb, hcl⟩ := HT.out.cl j hjn
      have OK := hd (HT.out.ok j hjn)
      have hsh := OK.out.short
      have hsb := HS.out.bd j hjn
      obtain ⟨bv, ov, rfl, cs⟩ := HR.out.int hjn
      have hwj : IntKind.i64.wrap ((j : Int) + 1) = ((j + 1 : Nat) : Int) := by rw [IntWalk.i64_in _ (by omega)]; push_cast; rfl
      have RB := hd hb
      have RL := hd hl
      generalize tkAt ts j = t at *
      obtain ⟨ml, hml⟩ : ∃ ml, ml = t.bf.length := ⟨_, rfl⟩
      have HML := hd hml
      rw [← hml] at ls c2 c3 hcb hcl hsh RB RL
      clear hml hb hl
      obtain ⟨z, hz⟩ : ∃ z, z = L m := ⟨_, rfl⟩
      rw [← hz] at ls lb ⊢
      have LSm := hd ls
      generalize s.getD j 0 = x at *
      clear hz ls
      have G0 := hd (gF_zero t (i : Int) z x ta)
      go_wp2
      go_loopw [9, 33] (fun av kv wr => ∃ (k q' : Nat), k ≤ ml ∧ kv = .int .i64 k ∧ av = .int .i64 (gF t (i : Int) z x ta k) ∧ wr = w.drewN q') (fun _ kv _ => ml - (intOf kv).toNat)
      case atStart => exact ⟨0, q, by omega, rfl, by rw [G0.out], rfl⟩
      case round =>
        obtain ⟨k, q', hk, rfl, rfl, hw⟩ := hrel
        subst hw
        by_cases hkm : k < ml
        · have hk2 : (k : Int) < (ml : Int) := Int.ofNat_lt.2 hkm
          have hkl : k < t.bf.length := by rw [← HML.out]; exact hkm
          obtain ⟨bb, ob, rfl, cb'⟩ := RB.out.int hkm
          obtain ⟨bl, ol, rfl, cl'⟩ := RL.out.int hkm
          have lk := OK.out.l0 k hkl
          by_cases hit : t.bf.getD k 0 = (i : Int)
          · obtain ⟨g1, g2⟩ := gF_hit OK.out (z := z) (y := x) (ta := ta) hkl hit
            rw [hit] at cb'
            rw [min_ifT] at g2
            rw [g1]
            have G2 := hd g2
            generalize t.lg.getD k 0 = y at *
            have w1 : IntKind.i64.wrap (x - y) = x - y := IntWalk.i64_in _ (by omega)
            have w2 : IntKind.i64.wrap (x - y - ta) = x - y - ta := IntWalk.i64_in _ (by omega)
            clear hit g1 g2 lk hkl
            go_wp2_with fail
            go_quiet ((go_at_call 35; exact (minT_any _ _ _).mono fun _ _ h => by (obtain ⟨h1, h2⟩ := h; refine ⟨h1, ?_⟩; rw [h2]; first | exact ⟨_, rfl⟩ | (rw [World.drewN_drewN]; exact ⟨_, rfl⟩))))
            clear w1 w2 cb' cl'
            go_wp2
            go_roundw
            case rel => exact ⟨k + 1, q' + nq, by omega, by go_num, by rw [G2.out], by first | rfl | rw [World.drewN_drewN]⟩
            case measure => simp [intOf]; omega
          · have g2 := gF_miss (t := t) (x := (i : Int)) (z := z) (y := x) (ta := ta) (k := k) hit
            have G2 := hd g2
            obtain ⟨bk, hbk⟩ : ∃ bk, bk = t.bf.getD k 0 := ⟨_, rfl⟩
            rw [← hbk] at hit cb'
            clear g2 hbk lk cl'
            generalize gF t (i : Int) z x ta k = v at *
            go_wp2
            go_roundw
            case rel => exact ⟨k + 1, q', by omega, by go_num, by rw [G2.out], by first | rfl | trivial⟩
            case measure => simp [intOf]; omega
        · obtain rfl : ml = k := by omega
          rw [← LSm.out]
          go_wp2
          go_roundw
          case rel => exact ⟨j + 1, m + 1, q', by omega, hd (by have := HJ.out; omega), by first | rfl | go_num, rfl, rfl⟩
          case measure => simp [intOf]; omega
    · have HMM := hd (show n - 1 - i = m by have := HJ.out; omega)
      go_wp2
      go_ret
      exact ⟨by rw [HMM.out]; rfl, q, rfl⟩
theorem feas_bd {ts : List TK} {n : Nat} {e : Int} {s : List Int} (ho : TasksOk ts n) (h : Feas ts n e s) {i : Nat} (hi : i < n) : 0 ≤ s.getD i 0 ∧ s.getD i 0 ≤ e := by
  have h1 := h.nn hi
  have h2 := h.hi i hi
  have h3 := (ho i hi).a0
  omega
theorem feas_pa {ts : List TK} {n : Nat} {e : Int} {s : List Int} (ho : TasksOk ts n) (h : Feas ts n e s) (e0 : 0 ≤ e) (e9 : e ≤ 600) : PA ts s n (lastF ts (fun j => s.getD j 0) n).toNat := by
  have h1 := (lastF_le ts (fun j => s.getD j 0) n).1
  have h2 : lastF ts (fun j => s.getD j 0) n ≤ e := lastF_bd e0 fun i hi => h.hi i hi
  exact ⟨fun i hi => h.nn hi, by omega, by omega⟩
/-- what the call gives -/
def LevelOut (ts : List TK) (n : Nat) (en : Int) (r : Nat) (w : World) (e : Ending) (w' : World) : Prop :=
  ∃ u, e = .returned (.tuple #[u, .int .i64 (sqS ts n (lvlR ts n en (earlyL ts n n) r)), .bool true]) ∧ w'.ownsRow w.heap.size 2 1 u n ((lvlR ts n en (earlyL ts n n) r).map vi) ∧ Below w.heap.size w w'
set_option maxHeartbeats 4000000 in
set_option maxRecDepth 100000 in
theorem LevelPlan_any (b o c : Nat) (ts : List TK) (n : Nat) (w : World) (h : TA w b o c ts n) (en : Int) (t0 : lastF ts (eS ts n) n ≤ en) (t9 : en ≤ 400) (r : Nat) (r8 : r ≤ 8) :
    Calls Try.prog 8 #[.slice (some ⟨b, o, none⟩) n c, .int .i64 en, .int .i64 r] w (LevelOut ts n en r w) := by
  have n1 := h.n1
  have n9 := h.n9
  have hnc := h.nc
  have hE := (lastF_le ts (eS ts n) n).1
  have g1 : inR en (lastF ts (eS ts n) n) 400 = true := inR_iff.2 ⟨t0, t9⟩
  have g2 : inR (r : Int) 0 8 = true := inR_iff.2 ⟨by omega, by omega⟩
  have ES := hd (EarlyStarts_any b o c ts n w h)
  have FE := hd (feas_early h.ok t0)
  have FR := hd (fun r' => (FE.out.rounds h.ok r').1)
  have FK := hd (fun r' k (hk : k ≤ n) => ((FR.out r').sweep h.ok k hk).1)
  have OKT := hd h.ok
  have SQC := hd (fun w' (hb : Below w.heap.size w w') V s hs (hf : Feas ts n en s) => squares_any b o c ts n w' (h.below hb) V s hs _ (feas_pa h.ok hf (by omega) (by omega)))
  have EC := hd (fun w' (hb : Below w.heap.size w w') V s hs i hi => earliest_any b o c ts n w' (h.below hb) V s hs i hi)
  have LC := hd (fun w' (hb : Below w.heap.size w w') V s hs i hi => latest_any b o c ts n w' (h.below hb) V s hs i hi en (by omega) (by omega))
  clear h
  go_enter Try.func8, Try.ntmps8
  go_wp2_with fail
  go_at_call 14
  refine ES.out.mono ?_
  rintro e' w1 ⟨ge, rfl, ho1, hb1⟩
  have HO1 := hd (show w1.ownsRow w.heap.size 2 1 (.slice (some ⟨ge, 0, none⟩) n n) n ((lvlR ts n en (earlyL ts n n) 0).map vi) from ho1)
  have HB1 := hd hb1
  have hgw : w.heap.size ≤ ge := (World.ownsRow.lt ho1 _ rfl).1
  have hge : ge < w1.heap.size := (World.ownsRow.lt ho1 _ rfl).2
  clear ho1 hb1 ES
  have RS := hd (fun r' => (show lvlR ts n en (earlyL ts n n) (r' + 1) = lvlK ts n en (lvlR ts n en (earlyL ts n n) r') n from rfl))
  obtain ⟨Sr, hSr⟩ : ∃ Sr, Sr = lvlR ts n en (earlyL ts n n) := ⟨_, rfl⟩
  rw [← hSr] at FR FK RS HO1
  have HSr := hd hSr
  clear hSr
  go_wp2_with (go_at_call 20; refine (within_t _ _ _ _ (by first | exact g1 | exact g2)).mono ?_; rintro e w' ⟨rfl, hw⟩; replace hw := hw.symm; subst hw)
  go_loopw [39] (fun iv wr => ∃ r' : Nat, r' ≤ r ∧ iv = .int .i64 r' ∧ Hid (wr.ownsRow w.heap.size 2 1 (.slice (some ⟨ge, 0, none⟩) n n) n ((Sr r').map vi)) ∧ Hid (Below w.heap.size w wr)) (fun iv _ => r - (intOf iv).toNat)
  case atStart => exact ⟨0, by omega, rfl, HO1, HB1⟩
  case round =>
    clear HO1 HB1
    obtain ⟨r', hr, rfl, HO, HB⟩ := hrel
    by_cases hrr : r' < r
    · have r2 : (r' : Int) < (r : Int) := Int.ofNat_lt.2 hrr
      have rs := hd (RS.out r')
      have KS := hd (fun k => (show lvlK ts n en (Sr r') (k + 1) = lvlM ts n en (lvlK ts n en (Sr r') k) (n - 1 - k) from rfl))
      have K0 := hd (show lvlK ts n en (Sr r') 0 = Sr r' from rfl)
      have FKr := hd (fun k hk => FK.out r' k hk)
      obtain ⟨Kr, hKr⟩ : ∃ Kr, Kr = lvlK ts n en (Sr r') := ⟨_, rfl⟩
      rw [← hKr] at rs KS K0 FKr
      clear hKr
      have HOK := hd (show wr.ownsRow w.heap.size 2 1 (.slice (some ⟨ge, 0, none⟩) n n) n ((Kr 0).map vi) by rw [K0.out]; exact HO.out)
      have HBK := HB
      have hwn : IntKind.i64.wrap ((n : Int) - 1) = (n : Int) - 1 := IntWalk.i64_in _ (by omega)
      clear HO HB
      go_wp2
      go_loopw [12] (fun iv wr => ∃ k : Nat, k ≤ n ∧ iv = .int .i64 ((n : Int) - 1 - k) ∧ Hid (wr.ownsRow w.heap.size 2 1 (.slice (some ⟨ge, 0, none⟩) n n) n ((Kr k).map vi)) ∧ Hid (Below w.heap.size w wr)) (fun iv _ => (intOf iv + 1).toNat)
      case atStart => exact ⟨0, by omega, by simp, HOK, HBK⟩
      case round =>
        clear HOK HBK hwn
        obtain ⟨k, hk, rfl, HO, HB⟩ := hrel
        by_cases hkn : k < n
        · obtain ⟨i, hi⟩ : ∃ i : Nat, i = n - 1 - k := ⟨_, rfl⟩
          rw [show ((n : Int) - 1 - (k : Int)) = (i : Int) by omega]
          have hin : i < n := by omega
          have ks := KS.out k
          rw [← hi] at ks
          have FS := hd (FKr.out k hk)
          have hik := hd hi
          clear hi
          obtain ⟨s, hs⟩ : ∃ s, s = Kr k := ⟨_, rfl⟩
          rw [← hs] at FS ks HO
          clear hs
          have KSk := hd ks
          clear ks
          have SAs := hd (fun (w' : World) (x : List Int) (ho : w'.ownsRow w.heap.size 2 1 (.slice (some ⟨ge, 0, none⟩) n n) n (x.map vi)) (hf : Feas ts n en x) => starts_own ho n9 (fun k hk => by have := feas_bd OKT.out hf hk; omega))
          have hlow := FS.out.lo i hin
          have hhigh := FS.out.high OKT.out hin
          have hl0 : 0 ≤ lowS ts s i := (leastF_le ts (fun j => s.getD j 0) (tkAt ts i) (tkAt ts i).bf.length).1
          have hh9 : highS ts n en s i ≤ 400 := by
            have h1 := (lateF_le OKT.out (fun j => s.getD j 0) i en (n - 1 - i) (by omega)).1
            have h2 := (OKT.out i hin).a0
            rw [highS]; omega
          have MV := hd (show lvlM ts n en s i = s.set i (pickB (fun x => sqS ts n (s.set i x)) (lowS ts s i) (s.getD i 0) (highS ts n en s i + 1 - lowS ts s i).toNat).1 from rfl)
          have FST := hd (fun x (h1 : lowS ts s i ≤ x) (h2 : x ≤ highS ts n en s i) => FS.out.set OKT.out hin h1 h2)
          have PS := hd (fun j => (show pickB (fun x => sqS ts n (s.set i x)) (lowS ts s i) (s.getD i 0) (j + 1) = if (pickB (fun x => sqS ts n (s.set i x)) (lowS ts s i) (s.getD i 0) j).2 < 0 ∨ sqS ts n (s.set i (lowS ts s i + j)) ≤ (pickB (fun x => sqS ts n (s.set i x)) (lowS ts s i) (s.getD i 0) j).2 then (lowS ts s i + j, sqS ts n (s.set i (lowS ts s i + j))) else pickB (fun x => sqS ts n (s.set i x)) (lowS ts s i) (s.getD i 0) j from rfl))
          have P0 := hd (show pickB (fun x => sqS ts n (s.set i x)) (lowS ts s i) (s.getD i 0) 0 = (s.getD i 0, -1) from rfl)
          have hll : s.length = n := FS.out.len
          have E1 := hd (EC.out wr HB.out _ s (SAs.out wr s HO.out FS.out) i hin)
          have E2 := hd (fun q => LC.out (wr.drewN q) (below_drewN HB.out q) _ s ((SAs.out wr s HO.out FS.out).below (below_drewN (Below.refl _ wr) q)) i hin)
          have HLo := hd (show lowS ts s i = leastF ts (fun j => s.getD j 0) (tkAt ts i) (tkAt ts i).bf.length from rfl)
          have HHi := hd (show highS ts n en s i = lateF ts (fun j => s.getD j 0) i en (n - 1 - i) from rfl)
          rw [← HLo.out] at E1
          rw [← HHi.out] at E2
          obtain ⟨low, hlo⟩ : ∃ low, low = lowS ts s i := ⟨_, rfl⟩
          obtain ⟨high, hhi⟩ : ∃ high, high = highS ts n en s i := ⟨_, rfl⟩
          rw [← hlo] at hlow hl0 MV FST PS P0 E1
          rw [← hhi] at hhigh hh9 MV FST E2
          have cs := HO.out.cellAt i (by omega)
          rw [List.getElem?_map, List.getElem?_eq_getElem (by omega), Option.map_some, show s[i] = s.getD i 0 by rw [List.getD_eq_getElem?_getD, List.getElem?_eq_getElem (by omega)]; rfl] at cs
          have ESi := hd (show s.set i (s.getD i 0) = s by rw [List.getD_eq_getElem?_getD, List.getElem?_eq_getElem (by omega), Option.getD_some, List.set_getElem_self])
          obtain ⟨b0, hb0⟩ : ∃ b0, b0 = s.getD i 0 := ⟨_, rfl⟩
          rw [← hb0] at hlow hhigh MV PS P0 cs ESi
          obtain ⟨cnt, hcnt⟩ : ∃ cnt : Nat, (cnt : Int) = high + 1 - low := ⟨(high + 1 - low).toNat, by omega⟩
          rw [show (high + 1 - low).toNat = cnt by omega] at MV
          obtain ⟨P, hP⟩ : ∃ P, P = pickB (fun x => sqS ts n (s.set i x)) low b0 := ⟨_, rfl⟩
          rw [← hP] at MV PS P0
          clear hP hlo hhi hb0 HLo HHi
          have HSS := hd (fun (x y : Int) => (show ((s.set i x).map vi).set i (.int .i64 y) = (s.set i y).map vi by rw [show (Value.int .i64 y) = vi y from rfl, ← List.map_set, List.set_set]))
          have hii : (i : Int) < (n : Int) := Int.ofNat_lt.2 hin
          have hi0 : (i : Int) ≥ 0 := by omega
          go_wp2_with fail
          go_at_call 21
          refine E1.out.mono ?_; rintro e' w' ⟨rfl, q1, hw⟩; subst hw
          go_wp2_with fail
          go_at_call 22
          refine (E2.out q1).mono ?_; rintro e' w' ⟨rfl, q2, hw⟩; subst hw
          obtain ⟨X, hX⟩ : ∃ X, X = (wr.drewN q1).drewN q2 := ⟨_, rfl⟩
          have HOX := hd (show X.ownsRow w.heap.size 2 1 (.slice (some ⟨ge, 0, none⟩) n n) n ((s.set i b0).map vi) by rw [hX, ESi.out]; exact HO.out)
          have HBX := hd (show Below w.heap.size w X by rw [hX]; exact below_drewN (below_drewN HB.out q1) q2)
          have cX : X.cell? ⟨ge, i, none⟩ = some (.int .i64 b0) := by rw [hX]; exact cs
          rw [← hX]
          clear hX HO HB cs E1 E2
          go_wp2
          go_loopw [15, 16, 17] (fun bv lv tv wr => ∃ (j : Nat) (x : Int), j ≤ cnt ∧ tv = .int .i64 (low + j) ∧ bv = .int .i64 (P j).1 ∧ lv = .int .i64 (P j).2 ∧ Hid (wr.ownsRow w.heap.size 2 1 (.slice (some ⟨ge, 0, none⟩) n n) n ((s.set i x).map vi)) ∧ Hid (Below w.heap.size w wr)) (fun _ _ tv _ => (high + 1 - intOf tv).toNat)
          case atStart => exact ⟨0, b0, by omega, by simp, by rw [P0.out], by rw [P0.out], HOX, HBX⟩
          case round =>
            clear HOX HBX cX
            obtain ⟨j, x, hj, rfl, rfl, rfl, HO, HB⟩ := hrel
            by_cases hjc : j < cnt
            · have ps := PS.out j
              obtain ⟨at', hat⟩ : ∃ at', at' = low + (j : Int) := ⟨_, rfl⟩
              rw [← hat] at ps ⊢
              have hah : at' ≤ high := by omega
              have FX := hd (FST.out at' (by omega) hah)
              have hwa : IntKind.i64.wrap (at' + 1) = at' + 1 := IntWalk.i64_in _ (by omega)
              obtain ⟨bb, lv, hbl⟩ : ∃ bb lv, P j = (bb, lv) := ⟨_, _, rfl⟩
              rw [hbl] at ps ⊢
              simp only at ps ⊢
              have HAT := hd hat
              clear hat hbl
              obtain ⟨sq, hsq⟩ : ∃ sq, sq = sqS ts n (s.set i at') := ⟨_, rfl⟩
              rw [← hsq] at ps
              have HSQ := hd hsq
              clear hsq
              by_cases hc : lv < 0 ∨ sq ≤ lv
              focus
                rw [if_pos hc] at ps
                have PSj := hd ps
                clear ps
                by_cases hc0 : lv < 0
                focus
                  go_wp2_with (first
                    | ((with_reducible refine wpList_store_own _ w.heap.size 2 1 n n ge _ HO.out size_int i (.int .i64 at') ?_ ?_ ?_ ?_ ?_); exact rfl; exact rfl; exact rfl; omega; intro w7 ho7 hg7; rw [HSS.out] at ho7; have HO7 := hd ho7; have HB7 := hd (below_row hg7 HB.out (fun k e => by cases e; exact hgw)); clear ho7 hg7)
                    | (go_at_call 23; refine (SQC.out w7 HB7.out _ _ (SAs.out w7 _ HO7.out FX.out) FX.out).mono ?_; rw [← HSQ.out]; rintro e' w8 ⟨rfl, hb8⟩; have HO8 := hd (own_below HO7.out hb8); have HB8 := hd (below_tr hb8 HB7.out); clear hb8))
                rotate_left
                focus
                  have hc1 : sq ≤ lv := by omega
                  go_wp2_with (first
                    | ((with_reducible refine wpList_store_own _ w.heap.size 2 1 n n ge _ HO.out size_int i (.int .i64 at') ?_ ?_ ?_ ?_ ?_); exact rfl; exact rfl; exact rfl; omega; intro w7 ho7 hg7; rw [HSS.out] at ho7; have HO7 := hd ho7; have HB7 := hd (below_row hg7 HB.out (fun k e => by cases e; exact hgw)); clear ho7 hg7)
                    | (go_at_call 23; refine (SQC.out w7 HB7.out _ _ (SAs.out w7 _ HO7.out FX.out) FX.out).mono ?_; rw [← HSQ.out]; rintro e' w8 ⟨rfl, hb8⟩; have HO8 := hd (own_below HO7.out hb8); have HB8 := hd (below_tr hb8 HB7.out); clear hb8))
              rotate_left 2
              focus
                rw [if_neg hc] at ps
                have PSj := hd ps
                have hc0 : ¬ lv < 0 := by omega
                have hc1 : ¬ sq ≤ lv := by omega
                clear ps hc
                go_wp2_with (first
                    | ((with_reducible refine wpList_store_own _ w.heap.size 2 1 n n ge _ HO.out size_int i (.int .i64 at') ?_ ?_ ?_ ?_ ?_); exact rfl; exact rfl; exact rfl; omega; intro w7 ho7 hg7; rw [HSS.out] at ho7; have HO7 := hd ho7; have HB7 := hd (below_row hg7 HB.out (fun k e => by cases e; exact hgw)); clear ho7 hg7)
                    | (go_at_call 23; refine (SQC.out w7 HB7.out _ _ (SAs.out w7 _ HO7.out FX.out) FX.out).mono ?_; rw [← HSQ.out]; rintro e' w8 ⟨rfl, hb8⟩; have HO8 := hd (own_below HO7.out hb8); have HB8 := hd (below_tr hb8 HB7.out); clear hb8))
              all_goals
                go_roundw
                case rel => exact ⟨j + 1, at', by omega, by have := HAT.out; exact congrArg (Value.int IntKind.i64) (by push_cast; omega), by rw [PSj.out], by rw [PSj.out], HO8, HB8⟩
                case measure => simp [intOf]; omega
            · obtain rfl : j = cnt := by omega
              have hnh : ¬ low + (j : Int) ≤ high := by omega
              have KM := hd (KSk.out.trans MV.out)
              obtain ⟨bb, hbb⟩ : ∃ bb, bb = (P j).1 := ⟨_, rfl⟩
              rw [← hbb] at KM ⊢
              clear hbb
              have hwi : IntKind.i64.wrap ((i : Int) - 1) = (i : Int) - 1 := IntWalk.i64_in _ (by omega)
              go_wp2_with ((with_reducible refine wpList_store_own _ w.heap.size 2 1 n n ge _ HO.out size_int i (.int .i64 bb) ?_ ?_ ?_ ?_ ?_); exact rfl; exact rfl; exact rfl; omega; intro w7 ho7 hg7; rw [HSS.out] at ho7)
              have HO7 := hd (show w7.ownsRow w.heap.size 2 1 (.slice (some ⟨ge, 0, none⟩) n n) n ((Kr (k + 1)).map vi) by rw [KM.out]; exact ho7)
              have HB7 := hd (below_row hg7 HB.out (fun k e => by cases e; exact hgw))
              clear ho7 hg7
              go_roundw
              case rel => exact ⟨k + 1, by omega, by have := hik.out; exact congrArg (Value.int IntKind.i64) (by push_cast; omega), HO7, HB7⟩
              case measure => have := hik.out; simp [intOf]; try omega
        · obtain rfl : k = n := by omega
          have hneg : ¬ ((k : Int) - 1 - (k : Int)) ≥ 0 := by omega
          go_wp2
          go_roundw
          case rel => exact ⟨r' + 1, by omega, by go_num, hd (by rw [rs.out]; exact HO.out), HB⟩
          case measure => simp [intOf]; omega
    · obtain rfl : r' = r := by omega
      have FF := hd (FR.out r')
      have SAf := hd (starts_own HO.out n9 (fun k hk => by have := feas_bd OKT.out FF.out hk; omega))
      have SQf := hd (SQC.out wr HB.out _ _ SAf.out FF.out)
      go_wp2_with (go_at_call 23; refine SQf.out.mono ?_; rintro e' w8 ⟨rfl, hb8⟩; have HO8 := hd (own_below HO.out hb8); have HB8 := hd (below_tr hb8 HB.out); clear hb8)
      go_ret3
      exact ⟨.slice (some ⟨ge, 0, none⟩) n n, by rw [HSr.out]; rfl, by rw [← HSr.out]; exact HO8.out, HB8.out⟩
set_option maxHeartbeats 4000000 in
set_option maxRecDepth 100000 in
theorem LevelPlanS_any (b o c : Nat) (ts : List TK) (n : Nat) (w : World) (h : TA w b o c ts n) (en : Int) (t0 : lastF ts (eS ts n) n ≤ en) (t9 : en ≤ 400) (r : Nat) (r8 : r ≤ 8) :
    Calls Try.prog 9 #[.slice (some ⟨b, o, none⟩) n c, .int .i64 en, .int .i64 r] w (LevelOut ts n en r w) := by
  have n1 := h.n1
  have n9 := h.n9
  have hnc := h.nc
  have hE := (lastF_le ts (eS ts n) n).1
  have g1 : inR en 0 400 = true := inR_iff.2 ⟨by omega, t9⟩
  have g2 : inR (r : Int) 0 8 = true := inR_iff.2 ⟨by omega, by omega⟩
  have AR := hd (l03Are_any b o c ts n w h)
  have ES := hd (fun w' (hb : Below w.heap.size w w') => l03Early_any b o c ts n w' (h.below hb))
  have LE := hd (fun w' (hb : Below w.heap.size w w') V hs => l03End_any b o c ts n w' (h.below hb) V (earlyL ts n n) hs)
  have LEe := hd (show lastF ts (fun j => (earlyL ts n n).getD j 0) n = lastF ts (eS ts n) n from rfl)
  have EBd := hd (fun k (hk : k < n) => feas_bd h.ok (feas_early h.ok t0) hk)
  have FE := hd (feas_early h.ok t0)
  have FR := hd (fun r' => (FE.out.rounds h.ok r').1)
  have FK := hd (fun r' k (hk : k ≤ n) => ((FR.out r').sweep h.ok k hk).1)
  have OKT := hd h.ok
  have SQC := hd (fun w' (hb : Below w.heap.size w w') V s hs (hf : Feas ts n en s) => l03Squares_any b o c ts n w' (h.below hb) V s hs _ (feas_pa h.ok hf (by omega) (by omega)))
  have EC := hd (fun w' (hb : Below w.heap.size w w') V s hs i hi => l03Least_any b o c ts n w' (h.below hb) V s hs i hi)
  have LC := hd (fun w' (hb : Below w.heap.size w w') V s hs i hi => l03Greatest_any b o c ts n w' (h.below hb) V s hs i hi en (by omega) (by omega))
  clear h
  go_enter Try.func9, Try.ntmps9
  go_wp2_with (first
    | (go_at_call 17; refine AR.out.mono ?_; rintro e' w0 ⟨rfl, hb0⟩)
    | (go_at_call 24; refine (l00In_t _ _ _ _ (by first | exact g1 | exact g2)).mono ?_; rintro e w' ⟨rfl, hw⟩; replace hw := hw.symm; subst hw)
    | (go_at_call 18; refine (ES.out w0 hb0).mono ?_; rintro e' w2 ⟨rfl, ho2, hb2⟩; have HO2 := hd (own_mono ho2 hb0.size); have HB2 := hd (below_tr hb2 hb0); have hgw : w.heap.size ≤ w0.heap.size := hb0.size)
    | (go_at_call 19; refine (LE.out w2 HB2.out _ (starts_own HO2.out n9 (fun k hk => by have := EBd.out k hk; omega))).mono ?_; rw [LEe.out]; rintro e' w1 ⟨rfl, hb1⟩; have hgt : ¬ lastF ts (eS ts n) n > en := by omega))
  obtain ⟨ge, hgE⟩ : ∃ ge, ge = w0.heap.size := ⟨_, rfl⟩
  rw [← hgE] at HO2 hgw ⊢
  have HO1 := hd (show w1.ownsRow w.heap.size 2 1 (.slice (some ⟨ge, 0, none⟩) n n) n ((lvlR ts n en (earlyL ts n n) 0).map vi) from own_below HO2.out hb1)
  have HB1 := hd (below_tr hb1 HB2.out)
  have hge : ge < w1.heap.size := (World.ownsRow.lt HO1.out _ rfl).2
  clear hb0 ho2 hb2 hb1 HO2 HB2 hgE ES LE AR hgt EBd
  have RS := hd (fun r' => (show lvlR ts n en (earlyL ts n n) (r' + 1) = lvlK ts n en (lvlR ts n en (earlyL ts n n) r') n from rfl))
  obtain ⟨Sr, hSr⟩ : ∃ Sr, Sr = lvlR ts n en (earlyL ts n n) := ⟨_, rfl⟩
  rw [← hSr] at FR FK RS HO1
  have HSr := hd hSr
  clear hSr
  go_loopw [2] (fun iv wr => ∃ r' : Nat, r' ≤ r ∧ iv = .int .i64 ((r : Int) - r') ∧ Hid (wr.ownsRow w.heap.size 2 1 (.slice (some ⟨ge, 0, none⟩) n n) n ((Sr r').map vi)) ∧ Hid (Below w.heap.size w wr)) (fun iv _ => (intOf iv).toNat)
  case atStart => exact ⟨0, by omega, by simp, HO1, HB1⟩
  case round =>
    clear HO1 HB1
    obtain ⟨r', hr, rfl, HO, HB⟩ := hrel
    by_cases hrr : r' < r
    · have r2 : ((r : Int) - (r' : Int)) > 0 := by omega
      have hwr9 : IntKind.i64.wrap ((r : Int) - (r' : Int) - 1) = (r : Int) - (r' : Int) - 1 := IntWalk.i64_in _ (by omega)
      have rs := hd (RS.out r')
      have KS := hd (fun k => (show lvlK ts n en (Sr r') (k + 1) = lvlM ts n en (lvlK ts n en (Sr r') k) (n - 1 - k) from rfl))
      have K0 := hd (show lvlK ts n en (Sr r') 0 = Sr r' from rfl)
      have FKr := hd (fun k hk => FK.out r' k hk)
      obtain ⟨Kr, hKr⟩ : ∃ Kr, Kr = lvlK ts n en (Sr r') := ⟨_, rfl⟩
      rw [← hKr] at rs KS K0 FKr
      clear hKr
      have HOK := hd (show wr.ownsRow w.heap.size 2 1 (.slice (some ⟨ge, 0, none⟩) n n) n ((Kr 0).map vi) by rw [K0.out]; exact HO.out)
      have HBK := HB
      have hwn : IntKind.i64.wrap ((n : Int) - 1) = (n : Int) - 1 := IntWalk.i64_in _ (by omega)
      clear HO HB
      go_wp2
      go_loopw [10] (fun iv wr => ∃ k : Nat, k ≤ n ∧ iv = .int .i64 ((n : Int) - 1 - k) ∧ Hid (wr.ownsRow w.heap.size 2 1 (.slice (some ⟨ge, 0, none⟩) n n) n ((Kr k).map vi)) ∧ Hid (Below w.heap.size w wr)) (fun iv _ => (intOf iv + 1).toNat)
      case atStart => exact ⟨0, by omega, by simp, HOK, HBK⟩
      case round =>
        clear HOK HBK hwn
        obtain ⟨k, hk, rfl, HO, HB⟩ := hrel
        by_cases hkn : k < n
        · obtain ⟨i, hi⟩ : ∃ i : Nat, i = n - 1 - k := ⟨_, rfl⟩
          rw [show ((n : Int) - 1 - (k : Int)) = (i : Int) by omega]
          have hin : i < n := by omega
          have ks := KS.out k
          rw [← hi] at ks
          have FS := hd (FKr.out k hk)
          have hik := hd hi
          clear hi
          obtain ⟨s, hs⟩ : ∃ s, s = Kr k := ⟨_, rfl⟩
          rw [← hs] at FS ks HO
          clear hs
          have KSk := hd ks
          clear ks
          have SAs := hd (fun (w' : World) (x : List Int) (ho : w'.ownsRow w.heap.size 2 1 (.slice (some ⟨ge, 0, none⟩) n n) n (x.map vi)) (hf : Feas ts n en x) => starts_own ho n9 (fun k hk => by have := feas_bd OKT.out hf hk; omega))
          have hlow := FS.out.lo i hin
          have hhigh := FS.out.high OKT.out hin
          have hl0 : 0 ≤ lowS ts s i := (leastF_le ts (fun j => s.getD j 0) (tkAt ts i) (tkAt ts i).bf.length).1
          have hh9 : highS ts n en s i ≤ 400 := by
            have h1 := (lateF_le OKT.out (fun j => s.getD j 0) i en (n - 1 - i) (by omega)).1
            have h2 := (OKT.out i hin).a0
            rw [highS]; omega
          have MV := hd (show lvlM ts n en s i = s.set i (pickB (fun x => sqS ts n (s.set i x)) (lowS ts s i) (s.getD i 0) (highS ts n en s i + 1 - lowS ts s i).toNat).1 from rfl)
          have FST := hd (fun x (h1 : lowS ts s i ≤ x) (h2 : x ≤ highS ts n en s i) => FS.out.set OKT.out hin h1 h2)
          have PS := hd (fun j => (show pickB (fun x => sqS ts n (s.set i x)) (lowS ts s i) (s.getD i 0) (j + 1) = if (pickB (fun x => sqS ts n (s.set i x)) (lowS ts s i) (s.getD i 0) j).2 < 0 ∨ sqS ts n (s.set i (lowS ts s i + j)) ≤ (pickB (fun x => sqS ts n (s.set i x)) (lowS ts s i) (s.getD i 0) j).2 then (lowS ts s i + j, sqS ts n (s.set i (lowS ts s i + j))) else pickB (fun x => sqS ts n (s.set i x)) (lowS ts s i) (s.getD i 0) j from rfl))
          have P0 := hd (show pickB (fun x => sqS ts n (s.set i x)) (lowS ts s i) (s.getD i 0) 0 = (s.getD i 0, -1) from rfl)
          have hll : s.length = n := FS.out.len
          have E1 := hd (EC.out wr HB.out _ s (SAs.out wr s HO.out FS.out) i hin)
          have E2 := hd (fun q => LC.out (wr.drewN q) (below_drewN HB.out q) _ s ((SAs.out wr s HO.out FS.out).below (below_drewN (Below.refl _ wr) q)) i hin)
          have HLo := hd (show lowS ts s i = leastF ts (fun j => s.getD j 0) (tkAt ts i) (tkAt ts i).bf.length from rfl)
          have HHi := hd (show highS ts n en s i = lateF ts (fun j => s.getD j 0) i en (n - 1 - i) from rfl)
          rw [← HLo.out] at E1
          rw [← HHi.out] at E2
          obtain ⟨low, hlo⟩ : ∃ low, low = lowS ts s i := ⟨_, rfl⟩
          obtain ⟨high, hhi⟩ : ∃ high, high = highS ts n en s i := ⟨_, rfl⟩
          rw [← hlo] at hlow hl0 MV FST PS P0 E1
          rw [← hhi] at hhigh hh9 MV FST E2
          have cs := HO.out.cellAt i (by omega)
          rw [List.getElem?_map, List.getElem?_eq_getElem (by omega), Option.map_some, show s[i] = s.getD i 0 by rw [List.getD_eq_getElem?_getD, List.getElem?_eq_getElem (by omega)]; rfl] at cs
          have ESi := hd (show s.set i (s.getD i 0) = s by rw [List.getD_eq_getElem?_getD, List.getElem?_eq_getElem (by omega), Option.getD_some, List.set_getElem_self])
          obtain ⟨b0, hb0⟩ : ∃ b0, b0 = s.getD i 0 := ⟨_, rfl⟩
          rw [← hb0] at hlow hhigh MV PS P0 cs ESi
          obtain ⟨cnt, hcnt⟩ : ∃ cnt : Nat, (cnt : Int) = high + 1 - low := ⟨(high + 1 - low).toNat, by omega⟩
          rw [show (high + 1 - low).toNat = cnt by omega] at MV
          obtain ⟨P, hP⟩ : ∃ P, P = pickB (fun x => sqS ts n (s.set i x)) low b0 := ⟨_, rfl⟩
          rw [← hP] at MV PS P0
          clear hP hlo hhi hb0 HLo HHi
          have HSS := hd (fun (x y : Int) => (show ((s.set i x).map vi).set i (.int .i64 y) = (s.set i y).map vi by rw [show (Value.int .i64 y) = vi y from rfl, ← List.map_set, List.set_set]))
          have hii : (i : Int) < (n : Int) := Int.ofNat_lt.2 hin
          have hi0 : (i : Int) ≥ 0 := by omega
          go_wp2_with fail
          go_at_call 25
          refine E1.out.mono ?_; rintro e' w' ⟨rfl, q1, hw⟩; subst hw
          go_wp2_with fail
          go_at_call 26
          refine (E2.out q1).mono ?_; rintro e' w' ⟨rfl, q2, hw⟩; subst hw
          obtain ⟨X, hX⟩ : ∃ X, X = (wr.drewN q1).drewN q2 := ⟨_, rfl⟩
          have HOX := hd (show X.ownsRow w.heap.size 2 1 (.slice (some ⟨ge, 0, none⟩) n n) n ((s.set i b0).map vi) by rw [hX, ESi.out]; exact HO.out)
          have HBX := hd (show Below w.heap.size w X by rw [hX]; exact below_drewN (below_drewN HB.out q1) q2)
          have cX : X.cell? ⟨ge, i, none⟩ = some (.int .i64 b0) := by rw [hX]; exact cs
          rw [← hX]
          clear hX HO HB cs E1 E2
          go_wp2
          go_loopw [13, 14, 15] (fun bv lv tv wr => ∃ (j : Nat) (x : Int), j ≤ cnt ∧ tv = .int .i64 (low + j) ∧ bv = .int .i64 (P j).1 ∧ lv = .int .i64 (P j).2 ∧ Hid (wr.ownsRow w.heap.size 2 1 (.slice (some ⟨ge, 0, none⟩) n n) n ((s.set i x).map vi)) ∧ Hid (Below w.heap.size w wr)) (fun _ _ tv _ => (high + 1 - intOf tv).toNat)
          case atStart => exact ⟨0, b0, by omega, by simp, by rw [P0.out], by rw [P0.out], HOX, HBX⟩
          case round =>
            clear HOX HBX cX
            obtain ⟨j, x, hj, rfl, rfl, rfl, HO, HB⟩ := hrel
            by_cases hjc : j < cnt
            · have ps := PS.out j
              obtain ⟨at', hat⟩ : ∃ at', at' = low + (j : Int) := ⟨_, rfl⟩
              rw [← hat] at ps ⊢
              have hah : at' ≤ high := by omega
              have FX := hd (FST.out at' (by omega) hah)
              have hwa : IntKind.i64.wrap (at' + 1) = at' + 1 := IntWalk.i64_in _ (by omega)
              obtain ⟨bb, lv, hbl⟩ : ∃ bb lv, P j = (bb, lv) := ⟨_, _, rfl⟩
              rw [hbl] at ps ⊢
              simp only at ps ⊢
              have HAT := hd hat
              clear hat hbl
              obtain ⟨sq, hsq⟩ : ∃ sq, sq = sqS ts n (s.set i at') := ⟨_, rfl⟩
              rw [← hsq] at ps
              have HSQ := hd hsq
              clear hsq
              by_cases hc : lv < 0 ∨ sq ≤ lv
              focus
                rw [if_pos hc] at ps
                have PSj := hd ps
                clear ps
                by_cases hc0 : lv < 0
                focus
                  go_wp2_with (first
                    | ((with_reducible refine wpList_store_own _ w.heap.size 2 1 n n ge _ HO.out size_int i (.int .i64 at') ?_ ?_ ?_ ?_ ?_); exact rfl; exact rfl; exact rfl; omega; intro w7 ho7 hg7; rw [HSS.out] at ho7; have HO7 := hd ho7; have HB7 := hd (below_row hg7 HB.out (fun k e => by cases e; exact hgw)); clear ho7 hg7)
                    | (go_at_call 27; refine (SQC.out w7 HB7.out _ _ (SAs.out w7 _ HO7.out FX.out) FX.out).mono ?_; rw [← HSQ.out]; rintro e' w8 ⟨rfl, hb8⟩; have HO8 := hd (own_below HO7.out hb8); have HB8 := hd (below_tr hb8 HB7.out); clear hb8))
                rotate_left
                focus
                  have hc1 : sq ≤ lv := by omega
                  go_wp2_with (first
                    | ((with_reducible refine wpList_store_own _ w.heap.size 2 1 n n ge _ HO.out size_int i (.int .i64 at') ?_ ?_ ?_ ?_ ?_); exact rfl; exact rfl; exact rfl; omega; intro w7 ho7 hg7; rw [HSS.out] at ho7; have HO7 := hd ho7; have HB7 := hd (below_row hg7 HB.out (fun k e => by cases e; exact hgw)); clear ho7 hg7)
                    | (go_at_call 27; refine (SQC.out w7 HB7.out _ _ (SAs.out w7 _ HO7.out FX.out) FX.out).mono ?_; rw [← HSQ.out]; rintro e' w8 ⟨rfl, hb8⟩; have HO8 := hd (own_below HO7.out hb8); have HB8 := hd (below_tr hb8 HB7.out); clear hb8))
              rotate_left 2
              focus
                rw [if_neg hc] at ps
                have PSj := hd ps
                have hc0 : ¬ lv < 0 := by omega
                have hc1 : ¬ sq ≤ lv := by omega
                clear ps hc
                go_wp2_with (first
                    | ((with_reducible refine wpList_store_own _ w.heap.size 2 1 n n ge _ HO.out size_int i (.int .i64 at') ?_ ?_ ?_ ?_ ?_); exact rfl; exact rfl; exact rfl; omega; intro w7 ho7 hg7; rw [HSS.out] at ho7; have HO7 := hd ho7; have HB7 := hd (below_row hg7 HB.out (fun k e => by cases e; exact hgw)); clear ho7 hg7)
                    | (go_at_call 27; refine (SQC.out w7 HB7.out _ _ (SAs.out w7 _ HO7.out FX.out) FX.out).mono ?_; rw [← HSQ.out]; rintro e' w8 ⟨rfl, hb8⟩; have HO8 := hd (own_below HO7.out hb8); have HB8 := hd (below_tr hb8 HB7.out); clear hb8))
              all_goals
                go_roundw
                case rel => exact ⟨j + 1, at', by omega, by have := HAT.out; exact congrArg (Value.int IntKind.i64) (by push_cast; omega), by rw [PSj.out], by rw [PSj.out], HO8, HB8⟩
                case measure => simp [intOf]; omega
            · obtain rfl : j = cnt := by omega
              have hnh : ¬ low + (j : Int) ≤ high := by omega
              have KM := hd (KSk.out.trans MV.out)
              obtain ⟨bb, hbb⟩ : ∃ bb, bb = (P j).1 := ⟨_, rfl⟩
              rw [← hbb] at KM ⊢
              clear hbb
              have hwi : IntKind.i64.wrap ((i : Int) - 1) = (i : Int) - 1 := IntWalk.i64_in _ (by omega)
              go_wp2_with ((with_reducible refine wpList_store_own _ w.heap.size 2 1 n n ge _ HO.out size_int i (.int .i64 bb) ?_ ?_ ?_ ?_ ?_); exact rfl; exact rfl; exact rfl; omega; intro w7 ho7 hg7; rw [HSS.out] at ho7)
              have HO7 := hd (show w7.ownsRow w.heap.size 2 1 (.slice (some ⟨ge, 0, none⟩) n n) n ((Kr (k + 1)).map vi) by rw [KM.out]; exact ho7)
              have HB7 := hd (below_row hg7 HB.out (fun k e => by cases e; exact hgw))
              clear ho7 hg7
              go_roundw
              case rel => exact ⟨k + 1, by omega, by have := hik.out; exact congrArg (Value.int IntKind.i64) (by push_cast; omega), HO7, HB7⟩
              case measure => have := hik.out; simp [intOf]; try omega
        · obtain rfl : k = n := by omega
          have hneg : ¬ ((k : Int) - 1 - (k : Int)) ≥ 0 := by omega
          go_wp2
          go_roundw
          case rel => exact ⟨r' + 1, by omega, congrArg (Value.int IntKind.i64) (by push_cast; omega), hd (by rw [rs.out]; exact HO.out), HB⟩
          case measure => simp [intOf]; omega
    · obtain rfl : r' = r := by omega
      have hn0 : ¬ ((r' : Int) - (r' : Int)) > 0 := by omega
      have FF := hd (FR.out r')
      have SAf := hd (starts_own HO.out n9 (fun k hk => by have := feas_bd OKT.out FF.out hk; omega))
      have SQf := hd (SQC.out wr HB.out _ _ SAf.out FF.out)
      go_wp2_with (go_at_call 27; refine SQf.out.mono ?_; rintro e' w8 ⟨rfl, hb8⟩; have HO8 := hd (own_below HO.out hb8); have HB8 := hd (below_tr hb8 HB.out); clear hb8)
      go_ret3
      exact ⟨.slice (some ⟨ge, 0, none⟩) n n, by rw [HSr.out]; rfl, by rw [← HSr.out]; exact HO8.out, HB8.out⟩
end Go.Proofs.Ytdbojkanelmlkaa
