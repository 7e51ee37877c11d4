/- The program's search for the cheapest haste: the closure, a contract by induction. -/
import Derived.Test.YtdbojkanelmlkaaHstF
namespace Go.Proofs.Ytdbojkanelmlkaa
open Go.RowKit Plain
set_option linter.unusedVariables false
set_option linter.unusedSimpArgs false
attribute [local go_sem ↓] Go.wp_at_zero Go.wp_at_succ
theorem child_facts (ts : List TK) (most costs : List Int) {n i q d : Nat} (hi : i < n) (hd : d ≤ limN ts most i) :
    restP ts most n (i + 1) * (d + (limN ts most i + 1) * q) = restP ts most n i * q + restP ts most n (i + 1) * d ∧ (∀ j, j < i → cutN ts most n (restP ts most n i * q + restP ts most n (i + 1) * d) j = cutN ts most n (restP ts most n i * q) j) ∧ cutN ts most n (restP ts most n i * q + restP ts most n (i + 1) * d) i = d ∧
    hCo ts most costs n (restP ts most n i * q + restP ts most n (i + 1) * d) (i + 1) = hCo ts most costs n (restP ts most n i * q) i + (d : Int) * costs.getD i 0 := by
  have h1 := child_at ts most (n := n) (i := i) (q := q) (d := d) hi
  have h2 := pre_child ts most (n := n) (i := i) (q := q) (d := d) hi hd
  have hp1 : 0 < restP ts most n (i + 1) := prodR_pos _
  have hp0 : 0 < restP ts most n i := prodR_pos _
  have key : ∀ j, j < i → cutN ts most n (restP ts most n i * q + restP ts most n (i + 1) * d) j = cutN ts most n (restP ts most n i * q) j := fun j hj => by
    have a := cut_pre ts most (n := n) (i := i + 1) (q := d + (limN ts most i + 1) * q) (r := 0) (j := j) (by omega) hp1 (by omega)
    have b := cut_pre ts most (n := n) (i := i) (q := q) (r := 0) (j := j) (by omega) hp0 hj
    rw [Nat.zero_add, h1] at a
    rw [Nat.zero_add] at b
    rw [a, b, h2.2 j hj]
  have kd : cutN ts most n (restP ts most n i * q + restP ts most n (i + 1) * d) i = d := by
    have a := cut_pre ts most (n := n) (i := i + 1) (q := d + (limN ts most i + 1) * q) (r := 0) (j := i) (by omega) hp1 (by omega)
    rw [Nat.zero_add, h1] at a
    rw [a, h2.1]
  exact ⟨h1, key, kd, by rw [hCo, hCo_same i key, kd]⟩
/-- a cut and a shorter time are written -/
theorem HSt.both {k : HK} {w0 w w6 w6' w7 : World} {ts : List TK} {n : Nat} {goal : Int} {v u : Nat → Int} {V : Value} {l : Int} (h : HSt k w0 w ts n goal v V l) (hg6 : w.grownBy w6 (some k.gC)) (hc6 : w6.ownsRow k.B 2 1 (.slice (some ⟨k.gC, 0, none⟩) n n) n ((fnL n u).map vi))
    (hb : Below w6.heap.size w6 w6') (hg7 : w6'.grownBy w7 (some k.gS)) (hs7 : w7.ownsRow k.B 34 4 (.slice (some ⟨k.gS, 0, none⟩) n k.cS) n (shCells w0 k.b 0 n ts u)) (ho : k.ord) : HSt k w0 w7 ts n goal u V l := by
  have f6 := h.fx.grown hg6 ho (.inl rfl)
  have f7 := (f6.below hb).grown hg7 ho (.inr (.inl rfl))
  have sz := h.sz
  have s6 := hg6.size
  have s6' := hb.size
  have s7 := hg7.size
  obtain ⟨o1, o2, o3, o4, o5, o6, o7, o8, o9, o10, o11, o12, o13⟩ := ho
  refine ⟨f7, (hg7.block _ (by omega) (by simp; omega)).trans ((hb.block _ (by omega)).trans ((hg6.block _ (by omega) (by simp; omega)).trans h.hB)), (hg7.block _ (by omega) (by simp; omega)).trans ((hb.block _ (by omega)).trans ((hg6.block _ (by omega) (by simp; omega)).trans h.hL)), hs7, (own_below hc6 hb).kept hg7 (.inr ?_), by omega⟩
  simp only [Value.ownBlock, Option.map_some, ne_eq, Option.some.injEq]; omega
set_option maxHeartbeats 4000000 in
set_option maxRecDepth 100000 in
theorem hput_any (k : HK) (w0 : World) (ts : List TK) (most costs : List Int) (n : Nat) (goal : Int) (hT : TA w0 k.b 0 k.c ts n) (hO : k.ord) (hBB : k.B = w0.heap.size) (n5 : n ≤ 5)
    (hm : ∀ i, i < n → w0.cell? ⟨k.bm, k.om + i, none⟩ = some (.int .i64 (most.getD i 0)) ∧ 0 ≤ most.getD i 0 ∧ most.getD i 0 ≤ 3) (hc : ∀ i, i < n → w0.cell? ⟨k.bk, k.ok + i, none⟩ = some (.int .i64 (costs.getD i 0)) ∧ 0 ≤ costs.getD i 0 ∧ costs.getD i 0 ≤ 1000) : ∀ (m i : Nat), i + m = n →
    ∀ (q : Nat) (w : World) (v : Nat → Int) (V : Value) (l : Int), Below k.B w0 w → HSt k w0 w ts n goal v V l → (∀ j, j < i → v j = (cutN ts most n (restP ts most n i * q) j : Int)) → HBest k w ts most costs n (hB (hOk ts most n goal) (fun t => hCo ts most costs n t n) (restP ts most n i * q)) V l →
    Calls Try.prog 31 #[.int .i64 (i : Int), .int .i64 (hCo ts most costs n (restP ts most n i * q) i), .pointer (some ⟨k.xN, 0, none⟩), .pointer (some ⟨k.xS, 0, none⟩), .pointer (some ⟨k.xE, 0, none⟩), .pointer (some ⟨k.xB, 0, none⟩), .pointer (some ⟨k.xL, 0, none⟩), .pointer (some ⟨k.xC, 0, none⟩), .pointer (some ⟨k.xM, 0, none⟩), .pointer (some ⟨k.xT, 0, none⟩), .pointer (some ⟨k.xP, 0, none⟩), .pointer (some ⟨k.xK, 0, none⟩)] w (HOut k w0 ts most costs n goal i (restP ts most n i * q) (restP ts most n i) w) := by
  intro m
  induction m with
  | zero =>
    intro i hi q w v V l hb hS hv hBe
    obtain rfl : i = n := by omega
    rw [restP_end, Nat.one_mul] at hv hBe ⊢
    exact hput_leaf k w0 ts most costs i goal hT hO hBB (fun i hi => (hm i hi).2.1) q w v V l hb hS hv hBe
  | succ m ih =>
    intro i him q w v V l hb hS hv hBe
    have hi : i < n := by omega
    have n9 := hT.n9
    have CF := hd (fun d (hd : d ≤ limN ts most i) => child_facts ts most costs (n := n) (i := i) (q := q) (d := d) hi hd)
    have CB := hd (hCo_bd hT.ok (fun i hi => (hm i hi).2) (fun i hi => (hc i hi).2) (restP ts most n i * q) i (by omega))
    have IH := hd (fun d (hdl : d ≤ limN ts most i) w' v' V' l' (h1 : Below k.B w0 w') (h2 : HSt k w0 w' ts n goal v' V' l') (h3 : ∀ j, j < i + 1 → v' j = (cutN ts most n (restP ts most n i * q + restP ts most n (i + 1) * d) j : Int)) (h4 : HBest k w' ts most costs n (hB (hOk ts most n goal) (fun t => hCo ts most costs n t n) (restP ts most n i * q + restP ts most n (i + 1) * d)) V' l') => by
      have e := ih (i + 1) (by omega) (d + (limN ts most i + 1) * q) w' v' V' l' h1 h2
      have f := CF.out d hdl
      rw [f.1, f.2.2.2, show ((i + 1 : Nat) : Int) = (i : Int) + 1 by push_cast; rfl] at e
      exact e h3 h4)
    have RS := hd (restP_succ ts most (n := n) hi)
    obtain ⟨t0, ht0⟩ : ∃ t0, t0 = restP ts most n i * q := ⟨_, rfl⟩
    rw [← ht0] at CF IH CB hv hBe ⊢
    obtain ⟨Ri, hRi⟩ : ∃ Ri, Ri = restP ts most n i := ⟨_, rfl⟩
    rw [← hRi] at RS ⊢
    obtain ⟨R, hR⟩ : ∃ R, R = restP ts most n (i + 1) := ⟨_, rfl⟩
    rw [← hR] at RS CF IH
    clear ht0 hRi hR ih
    obtain ⟨Lm, hLm⟩ : ∃ Lm, Lm = limN ts most i := ⟨_, rfl⟩
    rw [← hLm] at RS CF IH
    obtain ⟨Ab, cb, Al, cl, c0, c0x⟩ := hT.cl i hi
    clear c0x
    rw [Nat.zero_add] at c0
    have c0k := hd (fun (w' : World) (hb' : Below k.B w0 w') => (hb'.cell (p := ⟨k.b, i * 4, none⟩) (by rw [hBB]; exact hT.blk)).trans c0)
    have hmi := hm i hi
    have hci := hc i hi
    have cmk := hd (fun (w' : World) (hb' : Below k.B w0 w') => (hb'.cell (p := ⟨k.bm, k.om + i, none⟩) (by rw [hBB]; exact block_lt_of_cell hmi.1)).trans hmi.1)
    have cck := hd (fun (w' : World) (hb' : Below k.B w0 w') => (hb'.cell (p := ⟨k.bk, k.ok + i, none⟩) (by rw [hBB]; exact block_lt_of_cell hci.1)).trans hci.1)
    have ta0 := (hT.ok i hi).a0
    have ta1 := (hT.ok i hi).a1
    obtain ⟨b1, b2⟩ := hmi.2
    obtain ⟨b3, b4⟩ := hci.2
    rw [limN] at hLm
    have SH := hd (fun (v : Nat → Int) (x : Int) => shCells_set w0 k.b 0 ts v hi x)
    generalize (tkAt ts i).a = ta at *
    generalize most.getD i 0 = mi at *
    generalize costs.getD i 0 = ci at *
    have hLe : (Lm : Int) = if ta < mi then ta else mi := by rw [← min_ifT, hLm]; omega
    have hLx : (Lm : Int) ≤ 3 := by omega
    obtain ⟨cb0, cb1⟩ := CB.out
    generalize hCo ts most costs n t0 i = co at *
    have HFX := hd hS.fx
    have HST := hd hS
    have HBE := hd hBe
    have HB0 := hd hb
    have HV := hd hv
    have HO := hd hO
    have c1 := hS.fx.cN
    have c2 := hS.fx.cM
    have c3 := hS.fx.cT
    have c4 := cmk.out w hb
    have c5 := c0k.out w hb
    have hii : (i : Int) < (n : Int) := Int.ofNat_lt.2 hi
    have hne : ¬ (i : Int) = (n : Int) := by omega
    have hwl : IntKind.i64.wrap ((if ta < mi then ta else mi) + 1) = (Lm : Int) + 1 := by rw [← hLe]; exact IntWalk.i64_in _ (by omega)
    have CB' := hd (And.intro cb0 cb1)
    have BND := hd (And.intro (And.intro b1 b2) (And.intro b3 b4))
    clear CB hBB hm hc hmi hci hS hBe hb hv hO hT c0 him cb0 cb1 hLm
    go_enter Try.func31, Try.ntmps31
    go_wp2_with fail
    go_quiet (fail)
    obtain ⟨cnt, hcnt⟩ : ∃ cnt : Nat, cnt = Lm + 1 := ⟨_, rfl⟩
    rw [← hLe, show (Lm : Int) + 1 = (cnt : Int) by rw [hcnt]; push_cast; rfl]
    rw [← hcnt] at RS
    have HCN := hd hcnt
    clear hcnt hLe hwl c1 c2 c3 c4 c5
    have HS0 := hd (HST.out.drewN nq HO.out)
    have HBE0 := hd (HBE.out.below (below_drewN (Below.refl _ w) nq))
    have HB00 := hd (below_drewN HB0.out nq)
    have HSZ0 := hd (show w.heap.size ≤ (w.drewN nq).heap.size from (below_drewN (Below.refl w.heap.size w) nq).size)
    generalize w.drewN nq = wS at *
    rw [show ((i : Int) == (n : Int)) = false by simpa using hne]
    clear hne
    go_wp2_with fail
    go_loopw [47] (fun iv wr => ∃ (d : Nat) (v : Nat → Int) (V : Value) (l : Int), d ≤ cnt ∧ iv = .int .i64 d ∧ Hid (∀ j, j < i → v j = (cutN ts most n t0 j : Int)) ∧ Hid (HSt k w0 wr ts n goal v V l) ∧ Hid (HBest k wr ts most costs n (hB (hOk ts most n goal) (fun t => hCo ts most costs n t n) (t0 + R * d)) V l) ∧ Hid (Below k.B w0 wr) ∧ Hid (w.heap.size ≤ wr.heap.size)) (fun iv _ => cnt - (intOf iv).toNat)
    case atStart => exact ⟨0, v, V, l, by omega, rfl, HV, HS0, HBE0, HB00, HSZ0⟩
    case round =>
      clear HV HST HBE HB0 HS0 HBE0 HB00 HSZ0
      obtain ⟨d, v, V, l, hdc, rfl, HV, HST, HBE, HB0, HSZ⟩ := hrel
      by_cases hlt : d < cnt
      · have hdl : d ≤ Lm := by have := HCN.out; omega
        have k2 : (d : Int) < (cnt : Int) := Int.ofNat_lt.2 hlt
        have cf := hd (CF.out d hdl)
        have IHd := hd (fun w' v' V' l' => IH.out d hdl w' v' V' l')
        obtain ⟨td, htd⟩ : ∃ td, td = t0 + R * d := ⟨_, rfl⟩
        rw [← htd] at cf IHd HBE
        have HTD := hd htd
        clear htd
        have c1 := HST.out.fx.cC
        have rC := HST.out.rC
        have rS := HST.out.rS
        have RC := hd rC
        have RSS := hd rS
        have SZ := hd HST.out.sz
        obtain ⟨b1, b2⟩ := BND.out.1
        obtain ⟨b3, b4⟩ := BND.out.2
        have hdm : (d : Int) * ci ≤ 3 * 1000 := Int.mul_le_mul (by omega) b4 b3 (by omega)
        have hdm0 : 0 ≤ (d : Int) * ci := Int.mul_nonneg (by omega) b3
        have hwa : IntKind.i64.wrap (ta - (d : Int)) = ta - (d : Int) := IntWalk.i64_in _ (by omega)
        have hwb : IntKind.i64.wrap ((d : Int) * ci) = (d : Int) * ci := IntWalk.i64_in _ (by omega)
        have hwc : IntKind.i64.wrap (co + (d : Int) * ci) = co + (d : Int) * ci := IntWalk.i64_in _ (by have := CB'.out; omega)
        have HWs := hd (And.intro hwa (And.intro hwb hwc))
        clear rC rS b1 b2 b3 b4 hdm hdm0 hwa hwb hwc
        obtain ⟨v1, hv1⟩ : ∃ v1 : Nat → Int, v1 = fun m => if m = i then (d : Int) else v m := ⟨_, rfl⟩
        have HV1 := hd hv1
        clear hv1
        have eC := hd (show ((fnL n v).map vi).set i (.int .i64 (d : Int)) = (fnL n v1).map vi by rw [HV1.out, ← fnL_set v (d : Int) hi, List.map_set]; rfl)
        have eS := hd (show (shCells w0 k.b 0 n ts v).set (i * 4) (.int .i64 (ta - (d : Int))) = shCells w0 k.b 0 n ts v1 by rw [HV1.out]; exact SH.out v (d : Int))
        go_wp2_with ((with_reducible refine wpList_store_own _ k.B 2 1 n n k.gC _ RC.out size_int i (.int .i64 (d : Int)) ?_ ?_ ?_ ?_ ?_); exact rfl; exact rfl; exact rfl; omega; intro w6 ho6 hg6; have HO6 := hd ho6; have HG6 := hd hg6; clear ho6 hg6)
        rw [eC.out] at HO6
        clear c1 RC
        have hor := HO.out
        unfold HK.ord at hor
        have HF6 := hd (HST.out.fx.grown HG6.out HO.out (.inl rfl))
        have HB6 := hd (HB0.out.grown HG6.out (by have := SZ.out; omega) (fun q e => by cases e; omega))
        have HR6 := hd (RSS.out.kept HG6.out (.inr (by simp only [Value.ownBlock, Option.map_some, ne_eq, Option.some.injEq]; omega)))
        have SZ6 := hd (Nat.le_trans SZ.out HG6.out.size)
        clear hor RSS
        have c1 := HF6.out.cS
        have c2 := HF6.out.cT
        have c3 := c0k.out w6 HB6.out
        have hwa := HWs.out.1
        go_still_tail 11, (by kernel_rfl)
        change wpList _ _ _ _ _ w6.drew
        have HR7 := hd (show w6.drew.ownsRow k.B 34 4 (.slice (some ⟨k.gS, 0, none⟩) n k.cS) n (shCells w0 k.b 0 n ts v) from HR6.out)
        go_wp2_with ((with_reducible refine wpList_store_own _ k.B 34 4 n k.cS k.gS _ HR7.out size_int (i * 4) (.int .i64 (ta - (d : Int))) ?_ ?_ ?_ ?_ ?_); exact rfl; exact rfl; exact rfl; omega; intro w7 ho7 hg7; have HO7 := hd ho7; have HG7 := hd hg7; clear ho7 hg7)
        rw [eS.out] at HO7
        have hbd7 := hd (show Below w6.heap.size w6 w6.drew from (Below.refl _ w6).drew)
        have HS7 := hd (HST.out.both HG6.out HO6.out hbd7.out HG7.out HO7.out HO.out)
        have hor := HO.out
        unfold HK.ord at hor
        have HB7 := hd (HB6.out.drew.grown HG7.out (by have := SZ6.out; have := hbd7.out.size; omega) (fun q e => by cases e; omega))
        have hBE7 := ((HBE.out.grown HG6.out (by omega)).below hbd7.out).grown HG7.out (by omega)
        have HBE7 := hd hBE7
        have HSZ7 := hd (Nat.le_trans HSZ.out (Nat.le_trans HG6.out.size (Nat.le_trans hbd7.out.size HG7.out.size)))
        have HVc := hd (show ∀ j, j < i + 1 → v1 j = (cutN ts most n td j : Int) from fun j hj => by
          rw [HV1.out]
          by_cases h : j = i
          · subst h; simp only [if_true]; rw [cf.out.2.2.1]
          · simp only [if_neg h]; rw [HV.out j (by omega), cf.out.2.1 j (by omega)])
        clear hor hBE7 hbd7 HO7 HG7 HR7 HR6 SZ6 HB6 HF6 HO6 HG6 c1 c2 c3 hwa
        have c1 := HS7.out.fx.cP
        have c2 := HS7.out.fx.cK
        have c3 := cck.out w7 HB7.out
        rw [HK.put] at c1
        obtain ⟨_, hwb, hwc⟩ := HWs.out
        have hwi : IntKind.i64.wrap ((i : Int) + 1) = (i : Int) + 1 := IntWalk.i64_in _ (by omega)
        go_wp2_with fail
        go_region_with (go_at_call 31; refine (IHd.out _ v1 V l HB7.out.drew (HS7.out.below (Below.refl _ _).drew HO.out) HVc.out (HBE7.out.below (Below.refl _ _).drew)).mono ?_; rintro e w8 ⟨⟨z, rfl⟩, v8, V8, l8, hv8, hs8, hbe8, hb8, hz8⟩; have HV8 := hd hv8; have HS8 := hd hs8; have HBE8 := hd hbe8; have HB8 := hd hb8; have HZ8 := hd hz8; clear hv8 hs8 hbe8 hb8 hz8)
        all_goals
          clear c1 c2 c3 hwb hwc hwi
          go_wp2_with fail
          go_roundw
          case rel => exact ⟨d + 1, v8, V8, l8, by omega, by go_num, hd (fun j hj => by rw [HV8.out j (by omega), cf.out.2.1 j hj]), HS8, hd (by rw [Nat.mul_succ, ← Nat.add_assoc, ← HTD.out]; exact HBE8.out), HB8, hd (Nat.le_trans HSZ7.out HZ8.out)⟩
          case measure => simp [intOf]; omega
      · obtain rfl : d = cnt := by omega
        go_wp2
        refine bodyPost_end (results_none rfl _ _ _) rfl ?_
        exact ⟨⟨_, rfl⟩, v, V, l, HV.out, HST.out, by rw [RS.out]; exact HBE.out, HB0.out, HSZ.out⟩
end Go.Proofs.Ytdbojkanelmlkaa
