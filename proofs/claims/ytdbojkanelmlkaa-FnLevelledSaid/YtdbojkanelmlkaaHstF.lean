/- The program's search for the cheapest haste: the closure's walk. -/
import Derived.Test.YtdbojkanelmlkaaHstE
namespace Go.Proofs.Ytdbojkanelmlkaa
open Go.RowKit Plain
set_option linter.unusedVariables false
set_option linter.unusedSimpArgs false
attribute [local go_sem ↓] Go.wp_at_zero Go.wp_at_succ
theorem size_slI : (Try.prog.info? 27).map (·.size) = some 1 := by kernel_rfl
theorem wpAnyH_takeD {P : Program} {ops : Array Oper} {Q : Exit → Act → World → Prop} {md : Region.Mode} {S : World → Prop} {i : Nat} {oi : Oper} {v : Value} {fuel : Nat} {listed : Array Bool} {a : Act} {w : World} (d : Option Tmp) (hi : ops[i]? = some oi) (hd : oi.dst = d)
    (hs : Region.noSelect ops = true) (hf : Region.free md ops listed i = true) (hr : (Region.ready md ops listed).contains i = true)
    (hQ : ∀ c a w, Q (.panic c) (a.put oi.dst v) w → Q (.panic c) a w) (hy : YieldsIf P ops S oi v a) (hS : S w)
    (h : wpAnyH P md ops Q S fuel (listed.setIfInBounds i true) (a.put d v) w) : wpAnyH P md ops Q S (fuel + 1) listed a w := by
  subst hd
  exact wpAnyH_take hi hs hf hr hQ hy hS h
/-- what a call of the closure leaves, at a prefix of i cuts with t the first vector behind it -/
def HOut (k : HK) (w0 : World) (ts : List TK) (most costs : List Int) (n : Nat) (goal : Int) (i t m : Nat) (w : World) (e : Ending) (w' : World) : Prop :=
  (∃ z, e = .returned z) ∧ ∃ v V l, (∀ j, j < i → v j = (cutN ts most n t j : Int)) ∧ HSt k w0 w' ts n goal v V l ∧ HBest k w' ts most costs n (hB (hOk ts most n goal) (fun t => hCo ts most costs n t n) (t + m)) V l ∧ Below k.B w0 w' ∧ w.heap.size ≤ w'.heap.size
set_option maxHeartbeats 4000000 in
set_option maxRecDepth 100000 in
theorem hput_leaf (k : HK) (w0 : World) (ts : List TK) (most costs : List Int) (n : Nat) (goal : Int) (hT : TA w0 k.b 0 k.c ts n) (hO : k.ord) (hBB : k.B = w0.heap.size) (hm : ∀ i, i < n → 0 ≤ most.getD i 0)
    (t : Nat) (w : World) (v : Nat → Int) (V : Value) (l : Int) (hb : Below k.B w0 w) (hS : HSt k w0 w ts n goal v V l) (hv : ∀ j, j < n → v j = (cutN ts most n t j : Int)) (hBe : HBest k w ts most costs n (hB (hOk ts most n goal) (fun t => hCo ts most costs n t n) t) V l) :
    Calls Try.prog 31 #[.int .i64 (n : Int), .int .i64 (hCo ts most costs n t n), .pointer (some ⟨k.xN, 0, none⟩), .pointer (some ⟨k.xS, 0, none⟩), .pointer (some ⟨k.xE, 0, none⟩), .pointer (some ⟨k.xB, 0, none⟩), .pointer (some ⟨k.xL, 0, none⟩), .pointer (some ⟨k.xC, 0, none⟩), .pointer (some ⟨k.xM, 0, none⟩), .pointer (some ⟨k.xT, 0, none⟩), .pointer (some ⟨k.xP, 0, none⟩), .pointer (some ⟨k.xK, 0, none⟩)] w (HOut k w0 ts most costs n goal n t 1 w) := by
  have n1 := hT.n1
  have n9 := hT.n9
  have hsh : n ≤ k.cS := (own_sl hS.rS (by unfold maxLen; omega)).elim fun A h => h.elim fun c h => by cases h.1; exact h.2.1
  have hts := ta_short hT (by rw [← hBB]; exact hb) (fun i hi => by rw [hv i hi]; have := cut_ok hT.ok hm t i hi; exact ⟨this.1, this.2.1⟩) hS.rS hsh
  rw [shortT_same ts hv] at hts
  have hokd : hOk ts most n goal t = decide (lastF (shortT ts n fun i => (cutN ts most n t i : Int)) (eS (shortT ts n fun i => (cutN ts most n t i : Int)) n) n ≤ goal) := rfl
  have cB := cell_of_row w k.xB 0 _ _ _ hS.hB
  have cL := cell_of_row w k.xL 0 _ _ _ hS.hL
  obtain ⟨S, hSd⟩ : ∃ S, S = shortT ts n fun i => (cutN ts most n t i : Int) := ⟨_, rfl⟩
  rw [← hSd] at hts hokd
  have HE := hd (fun w' hb' => earlyStarts_any k.gS 0 k.cS S n w' (hts.below hb'))
  have HL := hd (fun w' hb' A hs => lastEnd_any k.gS 0 k.cS S n w' (hts.below hb') A (earlyL S n n) hs)
  have EB := hd (fun j => early_bd hts.ok n (Nat.le_refl _) j)
  have heS : lastF S (fun j => (earlyL S n n).getD j 0) n = lastF S (eS S n) n := rfl
  rw [heS] at HL
  clear heS
  have HFX := hd hS.fx
  have CL := hd (fun w' (hb' : Below w.heap.size w w') => Clone_any (.slice (some ⟨k.gC, 0, none⟩) n n) (fnL n v) w' (by rw [fnL_len]; exact (own_sl hS.rC (by unfold maxLen; omega)).below hb') (by rw [fnL_len]; omega) (by rw [fnL_len]; omega))
  obtain ⟨le, hle⟩ : ∃ le, le = lastF S (eS S n) n := ⟨_, rfl⟩
  rw [← hle] at HL hokd
  have HOK := hd hokd
  have HST := hd hS
  have HBE := hd hBe
  have HB0 := hd hb
  have HV := hd hv
  have HO := hd hO
  have HVn := hd (fnL_same hv)
  have c1 := hS.fx.cN
  have c2 := hS.fx.cS
  have c3 := hS.fx.cE
  have szl : k.B1 ≤ w.heap.size := hS.sz
  clear hle hSd hokd hts hS hBe hb hv hO hT hm hBB
  obtain ⟨co, hco⟩ : ∃ co, co = hCo ts most costs n t n := ⟨_, rfl⟩
  rw [← hco]
  have HCO := hd hco
  clear hco
  simp only [List.getElem?_toArray, List.getElem?_cons_zero] at cB cL
  have HS0 := hd (show ((w.cell? ⟨k.xS, 0, none⟩ = some (.slice (some ⟨k.gS, 0, none⟩) n k.cS) ∧ w.cell? ⟨k.xE, 0, none⟩ = some (.int .i64 goal)) ∧ w.cell? ⟨k.xB, 0, none⟩ = some V ∧ w.cell? ⟨k.xL, 0, none⟩ = some (.int .i64 l)) from ⟨⟨c2, c3⟩, cB, cL⟩)
  have keepH := hd (fun (w' : World) (hb' : Below w.heap.size w w') => (show ((w'.cell? ⟨k.xS, 0, none⟩ = some (.slice (some ⟨k.gS, 0, none⟩) n k.cS) ∧ w'.cell? ⟨k.xE, 0, none⟩ = some (.int .i64 goal)) ∧ w'.cell? ⟨k.xB, 0, none⟩ = some V ∧ w'.cell? ⟨k.xL, 0, none⟩ = some (.int .i64 l) ∧ Below w.heap.size w w') from ⟨⟨below_at hb' HS0.out.1.1, below_at hb' HS0.out.1.2⟩, below_at hb' HS0.out.2.1, below_at hb' HS0.out.2.2, hb'⟩))
  clear c2 c3 cB cL HS0
  by_cases hle : le ≤ goal
  · have HT1 := hd (show hOk ts most n goal t = true by rw [HOK.out]; exact decide_eq_true hle)
    clear HOK
    cases hr : hB (hOk ts most n goal) (fun t => hCo ts most costs n t n) t with
    | none =>
      have HR := hd (hB_hit0 hr HT1.out)
      rw [hr] at HBE
      obtain ⟨rfl, rfl⟩ := HBE.out
      clear HBE HT1 hr
      have he : ∀ w : World, (binOp .eql 27 (.slice none 0 0) (.slice none 0 0)).run Try.prog w = .ok (.bool true) w := fun _ => rfl
      go_enter Try.func31, Try.ntmps31
      go_wp2_with fail
      refine wp_region_noPanic ?_
      refine wp_region_held_drew (S := fun w' => (w'.cell? ⟨k.xS, 0, none⟩ = some (.slice (some ⟨k.gS, 0, none⟩) n k.cS) ∧ w'.cell? ⟨k.xE, 0, none⟩ = some (.int .i64 goal)) ∧ w'.cell? ⟨k.xB, 0, none⟩ = some (.slice none 0 0) ∧ w'.cell? ⟨k.xL, 0, none⟩ = some (.int .i64 0) ∧ Below w.heap.size w w') (by kernel_rfl) (keepH.out _ (Below.refl _ w).drew) (fun hHeld => ?_)
      refine wpAnyH_takeD (i := 0) (v := (.slice (some ⟨k.gS, 0, none⟩) n k.cS)) (some 18) rfl rfl (by kernel_rfl) (by kernel_rfl) (by kernel_rfl) (fun _ _ _ h => h) (Or.inl ⟨by rfl, fun w' hSw => (by dsimp only at hSw; go_simp)⟩) (by assumption) ?_
      try simp only [Act.put, List.setIfInBounds_toArray, List.set_cons_zero, List.set_cons_succ]
      refine wpAnyH_takeD (i := 1) (v := (.slice (some ⟨k.gS, 0, none⟩) n k.cS)) (some 19) rfl rfl (by kernel_rfl) (by kernel_rfl) (by kernel_rfl) (fun _ _ _ h => h) (Or.inl ⟨by rfl, fun w' hSw => (by dsimp only at hSw; go_simp)⟩) (by assumption) ?_
      try simp only [Act.put, List.setIfInBounds_toArray, List.set_cons_zero, List.set_cons_succ]
      refine wpAnyH_takeD (i := 4) (v := (.int .i64 goal)) (some 22) rfl rfl (by kernel_rfl) (by kernel_rfl) (by kernel_rfl) (fun _ _ _ h => h) (Or.inl ⟨by rfl, fun w' hSw => (by dsimp only at hSw; go_simp)⟩) (by assumption) ?_
      try simp only [Act.put, List.setIfInBounds_toArray, List.set_cons_zero, List.set_cons_succ]
      refine wpAnyH_ready (rs := [2]) (by kernel_rfl) (by simp) (AllReadyH.cons rfl (fun K hK => ?_) AllReadyH.nil)
      go_simp
      go_at_call 33; refine (HE.out _ hHeld.2.2.2).mono ?_; rintro e' w2 ⟨rfl, ho2, hb2⟩; have HB2 := hd (below_tr hb2 hHeld.2.2.2); have HS2 := hd (starts_own ho2 n9 (fun k hk => by have := EB.out k; omega)); clear ho2 hb2
      go_wp2_with fail
      refine hK.out _ _ (keepH.out _ HB2.out) (fun hHeld2 => ?_)
      clear hK K
      try simp only [Act.put, List.setIfInBounds_toArray, List.set_cons_zero, List.set_cons_succ]
      refine wpAnyH_ready (rs := [3]) (by kernel_rfl) (by simp) (AllReadyH.cons rfl (fun K hK => ?_) AllReadyH.nil)
      go_simp
      go_at_call 32; refine (HL.out _ hHeld2.2.2.2 _ HS2.out).mono ?_; rintro e' w3 ⟨rfl, hb3⟩; have HB3 := hd (below_tr hb3 hHeld2.2.2.2); clear hb3 hHeld2
      go_wp2_with fail
      refine hK.out _ _ (keepH.out _ HB3.out) (fun hHeld2 => ?_)
      clear hK K
      try simp only [Act.put, List.setIfInBounds_toArray, List.set_cons_zero, List.set_cons_succ]
      refine wpAnyH_takeD (i := 5) (v := (.bool true)) (some 23) rfl rfl (by kernel_rfl) (by kernel_rfl) (by kernel_rfl) (fun _ _ _ h => h) (Or.inl ⟨by rfl, fun w' hSw => (by dsimp only at hSw; go_simp)⟩) (by assumption) ?_
      try simp only [Act.put, List.setIfInBounds_toArray, List.set_cons_zero, List.set_cons_succ]
      refine wpAnyH_takeD (i := 6) (v := (.bool true)) (some 24) rfl rfl (by kernel_rfl) (by kernel_rfl) (by kernel_rfl) (fun _ _ _ h => h) (Or.inl ⟨by rfl, fun w' hSw => (by dsimp only at hSw; go_simp)⟩) (by assumption) ?_
      try simp only [Act.put, List.setIfInBounds_toArray, List.set_cons_zero, List.set_cons_succ]
      refine wpAnyH_takeD (i := 7) (v := (.slice none 0 0)) (some 25) rfl rfl (by kernel_rfl) (by kernel_rfl) (by kernel_rfl) (fun _ _ _ h => h) (Or.inl ⟨by rfl, fun w' hSw => (by dsimp only at hSw; go_simp)⟩) (by assumption) ?_
      try simp only [Act.put, List.setIfInBounds_toArray, List.set_cons_zero, List.set_cons_succ]
      refine wpAnyH_takeD (i := 8) (v := (.bool true)) (some 26) rfl rfl (by kernel_rfl) (by kernel_rfl) (by kernel_rfl) (fun _ _ _ h => h) (Or.inl ⟨by rfl, fun w' hSw => (by dsimp only at hSw; go_simp)⟩) (by assumption) ?_
      try simp only [Act.put, List.setIfInBounds_toArray, List.set_cons_zero, List.set_cons_succ]
      refine wpAnyH_takeD (i := 9) (v := (.bool true)) (some 27) rfl rfl (by kernel_rfl) (by kernel_rfl) (by kernel_rfl) (fun _ _ _ h => h) (Or.inl ⟨by rfl, fun w' hSw => (by dsimp only at hSw; go_simp)⟩) (by assumption) ?_
      try simp only [Act.put, List.setIfInBounds_toArray, List.set_cons_zero, List.set_cons_succ]
      refine wpAnyH_takeD (i := 10) (v := undef) (some 28) rfl rfl (by kernel_rfl) (by kernel_rfl) (by kernel_rfl) (fun _ _ _ h => h) (Or.inr ⟨by rfl, rfl⟩) (by assumption) ?_
      try simp only [Act.put, List.setIfInBounds_toArray, List.set_cons_zero, List.set_cons_succ]
      refine wpAnyH_takeD (i := 11) (v := undef) (some 29) rfl rfl (by kernel_rfl) (by kernel_rfl) (by kernel_rfl) (fun _ _ _ h => h) (Or.inr ⟨by rfl, rfl⟩) (by assumption) ?_
      try simp only [Act.put, List.setIfInBounds_toArray, List.set_cons_zero, List.set_cons_succ]
      refine wpAnyH_takeD (i := 12) (v := undef) (some 30) rfl rfl (by kernel_rfl) (by kernel_rfl) (by kernel_rfl) (fun _ _ _ h => h) (Or.inr ⟨by rfl, rfl⟩) (by assumption) ?_
      try simp only [Act.put, List.setIfInBounds_toArray, List.set_cons_zero, List.set_cons_succ]
      refine wpAnyH_takeD (i := 13) (v := (.bool true)) (some 31) rfl rfl (by kernel_rfl) (by kernel_rfl) (by kernel_rfl) (fun _ _ _ h => h) (Or.inl ⟨by rfl, fun w' hSw => (by dsimp only at hSw; go_simp)⟩) (by assumption) ?_
      try simp only [Act.put, List.setIfInBounds_toArray, List.set_cons_zero, List.set_cons_succ]
      refine wpAnyH_takeD (i := 14) (v := (.bool true)) (some 32) rfl rfl (by kernel_rfl) (by kernel_rfl) (by kernel_rfl) (fun _ _ _ h => h) (Or.inl ⟨by rfl, fun w' hSw => (by dsimp only at hSw; go_simp)⟩) (by assumption) ?_
      try simp only [Act.put, List.setIfInBounds_toArray, List.set_cons_zero, List.set_cons_succ]
      refine wpAnyH_done (by kernel_rfl) ?_ _
      refine NoPanic.normal ?_
      all_goals
        have cC3 := below_at HB3.out HFX.out.cC
        have HS3 := hd (HST.out.below HB3.out HO.out)
        go_wp2_with fail
        go_at_call 34
        refine (CL.out w3 HB3.out).mono ?_
        rintro e4 w4 ⟨u, rfl, ho4, hb4, hu4⟩
        rw [fnL_len, HVn.out] at ho4
        have HS4 := hd (HS3.out.below hb4 HO.out)
        have HB4 := hd (below_tr hb4 HB3.out)
        have s34 := HB3.out.size
        have O4 := hd (own_mono ho4 (Nat.le_trans szl s34))
        obtain ⟨gu, cu, rfl, _, _⟩ := own_form ho4 n1
        have hb4x := HS4.out.hB
        have HX4 := hd hb4x
        clear ho4 hb4 hu4 hb4x s34 cC3
        go_wp2_with (first
          | ((with_reducible refine wpList_store_box _ k.xB _ _ HX4.out size_slI 0 (.slice (some ⟨gu, 0, none⟩) n cu) ?_ ?_ ?_ ?_ ?_); exact rfl; exact rfl; exact rfl; exact Nat.one_pos; intro w5 hx5 hg5; have HX5 := hd (show w5.heap[k.xL]? = some (.cells #[.int .i64 0] 2 (0, 0)) from (hg5.block _ (by have := HO.out; have := HS4.out.sz; unfold HK.ord at *; omega) (by have := HO.out; unfold HK.ord at *; simp; omega)).trans HS4.out.hL); have HY5 := hd (show w5.heap[k.xB]? = some (.cells #[.slice (some ⟨gu, 0, none⟩) n cu] 27 (0, 0)) from hx5); have HG5 := hd hg5; clear hx5 hg5)
          | ((with_reducible refine wpList_store_box _ k.xL _ _ HX5.out size_int 0 (.int .i64 co) ?_ ?_ ?_ ?_ ?_); exact rfl; exact rfl; exact rfl; exact Nat.one_pos; intro w6 hx6 hg6))
        have HS6 := hd (HS4.out.took HY5.out HG5.out (show w6.heap[k.xL]? = some (.cells #[.int .i64 co] 2 (0, 0)) from hx6) hg6 HO.out)
        have hor := HO.out
        unfold HK.ord at hor
        have b6 := (((HB0.out.trans (HB4.out.mono (by omega))).grown HG5.out (by have := HB4.out.size; omega) (fun q e => by cases e; omega)).grown hg6 (by have := HB4.out.size; have := HG5.out.size; omega) (fun q e => by cases e; omega))
        refine bodyPost_end (results_none rfl _ _ _) rfl ?_
        exact ⟨⟨_, rfl⟩, v, _, co, HV.out, HS6.out, by rw [HR.out]; exact ⟨HCO.out, gu, cu, rfl, (O4.out.kept HG5.out (.inr (fun e => by have := own_row O4.out (Nat.le_refl _) _ e; omega))).kept hg6 (.inr (fun e => by have := own_row O4.out (Nat.le_refl _) _ e; omega))⟩, b6, by have := HB4.out.size; have := HG5.out.size; have := hg6.size; omega⟩
    | some b =>
      rw [hr] at HBE
      obtain ⟨hl, gb, cb, rfl, hob⟩ := HBE.out
      have HL2 := hd hl
      have HOB := hd hob
      clear HBE hob
      have he : ∀ w : World, (binOp .eql 27 (.slice (some ⟨gb, 0, none⟩) n cb) (.slice none 0 0)).run Try.prog w = .ok (.bool false) w := fun _ => rfl
      by_cases hc : co < l
      · have HR := hd (hB_hit hr HT1.out (by show hCo ts most costs n t n < hCo ts most costs n b n; rw [← HCO.out, ← hl]; exact hc))
        clear hr hl HT1
        go_enter Try.func31, Try.ntmps31
        go_wp2_with fail
        first
          | go_region_held3 (fun w' => (w'.cell? ⟨k.xS, 0, none⟩ = some (.slice (some ⟨k.gS, 0, none⟩) n k.cS) ∧ w'.cell? ⟨k.xE, 0, none⟩ = some (.int .i64 goal)) ∧ w'.cell? ⟨k.xB, 0, none⟩ = some (.slice (some ⟨gb, 0, none⟩) n cb) ∧ w'.cell? ⟨k.xL, 0, none⟩ = some (.int .i64 l) ∧ Below w.heap.size w w')
              (first | exact keepH.out _ (Below.refl _ w).drew | exact keepH.out _ HB3.out | exact keepH.out _ HB2.out)
              (first
                | (go_at_call 33; refine (HE.out _ (‹_ ∧ _ ∧ _ ∧ Below w.heap.size w _›).2.2.2).mono ?_; rintro e' w2 ⟨rfl, ho2, hb2⟩; have HB2 := hd (below_tr hb2 (‹_ ∧ _ ∧ _ ∧ Below w.heap.size w _›).2.2.2); have HS2 := hd (starts_own ho2 n9 (fun k hk => by have := EB.out k; omega)); clear ho2 hb2)
                | (go_at_call 32; refine (HL.out _ (‹_ ∧ _ ∧ _ ∧ Below w.heap.size w _›).2.2.2 _ HS2.out).mono ?_; rintro e' w3 ⟨rfl, hb3⟩; have HB3 := hd (below_tr hb3 (‹_ ∧ _ ∧ _ ∧ Below w.heap.size w _›).2.2.2); clear hb3))
          | fail
        all_goals
          have cC3 := below_at HB3.out HFX.out.cC
          have HS3 := hd (HST.out.below HB3.out HO.out)
          go_wp2_with fail
          go_at_call 34
          refine (CL.out w3 HB3.out).mono ?_
          rintro e4 w4 ⟨u, rfl, ho4, hb4, hu4⟩
          rw [fnL_len, HVn.out] at ho4
          have HS4 := hd (HS3.out.below hb4 HO.out)
          have HB4 := hd (below_tr hb4 HB3.out)
          have s34 := HB3.out.size
          have O4 := hd (own_mono ho4 (Nat.le_trans szl s34))
          obtain ⟨gu, cu, rfl, _, _⟩ := own_form ho4 n1
          have hb4x := HS4.out.hB
          have HX4 := hd hb4x
          clear ho4 hb4 hu4 hb4x s34 cC3
          go_wp2_with (first
            | ((with_reducible refine wpList_store_box _ k.xB _ _ HX4.out size_slI 0 (.slice (some ⟨gu, 0, none⟩) n cu) ?_ ?_ ?_ ?_ ?_); exact rfl; exact rfl; exact rfl; exact Nat.one_pos; intro w5 hx5 hg5; have HX5 := hd (show w5.heap[k.xL]? = some (.cells #[.int .i64 l] 2 (0, 0)) from (hg5.block _ (by have := HO.out; have := HS4.out.sz; unfold HK.ord at *; omega) (by have := HO.out; unfold HK.ord at *; simp; omega)).trans HS4.out.hL); have HY5 := hd (show w5.heap[k.xB]? = some (.cells #[.slice (some ⟨gu, 0, none⟩) n cu] 27 (0, 0)) from hx5); have HG5 := hd hg5; clear hx5 hg5)
            | ((with_reducible refine wpList_store_box _ k.xL _ _ HX5.out size_int 0 (.int .i64 co) ?_ ?_ ?_ ?_ ?_); exact rfl; exact rfl; exact rfl; exact Nat.one_pos; intro w6 hx6 hg6))
          have HS6 := hd (HS4.out.took HY5.out HG5.out (show w6.heap[k.xL]? = some (.cells #[.int .i64 co] 2 (0, 0)) from hx6) hg6 HO.out)
          have hor := HO.out
          unfold HK.ord at hor
          have b6 := (((HB0.out.trans (HB4.out.mono (by omega))).grown HG5.out (by have := HB4.out.size; omega) (fun q e => by cases e; omega)).grown hg6 (by have := HB4.out.size; have := HG5.out.size; omega) (fun q e => by cases e; omega))
          refine bodyPost_end (results_none rfl _ _ _) rfl ?_
          exact ⟨⟨_, rfl⟩, v, _, co, HV.out, HS6.out, by rw [HR.out]; exact ⟨HCO.out, gu, cu, rfl, (O4.out.kept HG5.out (.inr (fun e => by have := own_row O4.out (Nat.le_refl _) _ e; omega))).kept hg6 (.inr (fun e => by have := own_row O4.out (Nat.le_refl _) _ e; omega))⟩, b6, by have := HB4.out.size; have := HG5.out.size; have := hg6.size; omega⟩
      · have HR := hd (hB_dear hr (by show ¬ hCo ts most costs n t n < hCo ts most costs n b n; rw [← HCO.out, ← hl]; exact hc))
        clear hr hl HT1
        go_enter Try.func31, Try.ntmps31
        go_wp2_with fail
        first
          | go_region_held3 (fun w' => (w'.cell? ⟨k.xS, 0, none⟩ = some (.slice (some ⟨k.gS, 0, none⟩) n k.cS) ∧ w'.cell? ⟨k.xE, 0, none⟩ = some (.int .i64 goal)) ∧ w'.cell? ⟨k.xB, 0, none⟩ = some (.slice (some ⟨gb, 0, none⟩) n cb) ∧ w'.cell? ⟨k.xL, 0, none⟩ = some (.int .i64 l) ∧ Below w.heap.size w w')
              (first | exact keepH.out _ (Below.refl _ w).drew | exact keepH.out _ HB3.out | exact keepH.out _ HB2.out)
              (first
                | (go_at_call 33; refine (HE.out _ (‹_ ∧ _ ∧ _ ∧ Below w.heap.size w _›).2.2.2).mono ?_; rintro e' w2 ⟨rfl, ho2, hb2⟩; have HB2 := hd (below_tr hb2 (‹_ ∧ _ ∧ _ ∧ Below w.heap.size w _›).2.2.2); have HS2 := hd (starts_own ho2 n9 (fun k hk => by have := EB.out k; omega)); clear ho2 hb2)
                | (go_at_call 32; refine (HL.out _ (‹_ ∧ _ ∧ _ ∧ Below w.heap.size w _›).2.2.2 _ HS2.out).mono ?_; rintro e' w3 ⟨rfl, hb3⟩; have HB3 := hd (below_tr hb3 (‹_ ∧ _ ∧ _ ∧ Below w.heap.size w _›).2.2.2); clear hb3))
          | fail
        all_goals
         go_wp2
         refine bodyPost_end (results_none rfl _ _ _) rfl ?_
         exact ⟨⟨_, rfl⟩, v, _, l, HV.out, HST.out.below HB3.out HO.out, by rw [HR.out]; exact ⟨HL2.out, gb, cb, rfl, own_below HOB.out HB3.out⟩, HB0.out.trans (HB3.out.mono (Nat.le_trans (by have := HO.out; unfold HK.ord at this; omega) szl)), HB3.out.size⟩
  · have HT1 := hd (hB_miss (co := fun t => hCo ts most costs n t n) (show hOk ts most n goal t = false by rw [HOK.out]; exact decide_eq_false hle))
    clear HOK
    have hled : decide (le ≤ goal) = false := decide_eq_false hle
    go_enter Try.func31, Try.ntmps31
    go_wp2_with fail
    refine wp_region_noPanic ?_
    refine wp_region_held_drew (S := fun w' => (w'.cell? ⟨k.xS, 0, none⟩ = some (.slice (some ⟨k.gS, 0, none⟩) n k.cS) ∧ w'.cell? ⟨k.xE, 0, none⟩ = some (.int .i64 goal)) ∧ w'.cell? ⟨k.xB, 0, none⟩ = some V ∧ w'.cell? ⟨k.xL, 0, none⟩ = some (.int .i64 l) ∧ Below w.heap.size w w') (by kernel_rfl) (keepH.out _ (Below.refl _ w).drew) (fun hHeld => ?_)
    refine wpAnyH_takeD (i := 0) (v := (.slice (some ⟨k.gS, 0, none⟩) n k.cS)) (some 18) rfl rfl (by kernel_rfl) (by kernel_rfl) (by kernel_rfl) (fun _ _ _ h => h) (Or.inl ⟨by rfl, fun w' hSw => (by dsimp only at hSw; go_simp)⟩) (by assumption) ?_
    try simp only [Act.put, List.setIfInBounds_toArray, List.set_cons_zero, List.set_cons_succ]
    refine wpAnyH_takeD (i := 1) (v := (.slice (some ⟨k.gS, 0, none⟩) n k.cS)) (some 19) rfl rfl (by kernel_rfl) (by kernel_rfl) (by kernel_rfl) (fun _ _ _ h => h) (Or.inl ⟨by rfl, fun w' hSw => (by dsimp only at hSw; go_simp)⟩) (by assumption) ?_
    try simp only [Act.put, List.setIfInBounds_toArray, List.set_cons_zero, List.set_cons_succ]
    refine wpAnyH_takeD (i := 4) (v := (.int .i64 goal)) (some 22) rfl rfl (by kernel_rfl) (by kernel_rfl) (by kernel_rfl) (fun _ _ _ h => h) (Or.inl ⟨by rfl, fun w' hSw => (by dsimp only at hSw; go_simp)⟩) (by assumption) ?_
    try simp only [Act.put, List.setIfInBounds_toArray, List.set_cons_zero, List.set_cons_succ]
    refine wpAnyH_ready (rs := [2]) (by kernel_rfl) (by simp) (AllReadyH.cons rfl (fun K hK => ?_) AllReadyH.nil)
    go_simp
    go_at_call 33; refine (HE.out _ hHeld.2.2.2).mono ?_; rintro e' w2 ⟨rfl, ho2, hb2⟩; have HB2 := hd (below_tr hb2 hHeld.2.2.2); have HS2 := hd (starts_own ho2 n9 (fun k hk => by have := EB.out k; omega)); clear ho2 hb2
    go_wp2_with fail
    refine hK.out _ _ (keepH.out _ HB2.out) (fun hHeld2 => ?_)
    clear hK K
    try simp only [Act.put, List.setIfInBounds_toArray, List.set_cons_zero, List.set_cons_succ]
    refine wpAnyH_ready (rs := [3]) (by kernel_rfl) (by simp) (AllReadyH.cons rfl (fun K hK => ?_) AllReadyH.nil)
    go_simp
    go_at_call 32; refine (HL.out _ hHeld2.2.2.2 _ HS2.out).mono ?_; rintro e' w3 ⟨rfl, hb3⟩; have HB3 := hd (below_tr hb3 hHeld2.2.2.2); clear hb3 hHeld2
    go_wp2_with fail
    refine hK.out _ _ (keepH.out _ HB3.out) (fun hHeld2 => ?_)
    clear hK K
    try simp only [Act.put, List.setIfInBounds_toArray, List.set_cons_zero, List.set_cons_succ]
    refine wpAnyH_takeD (i := 5) (v := (.bool false)) (some 23) rfl rfl (by kernel_rfl) (by kernel_rfl) (by kernel_rfl) (fun _ _ _ h => h) (Or.inl ⟨by rfl, fun w' hSw => (by dsimp only at hSw; go_simp)⟩) (by assumption) ?_
    try simp only [Act.put, List.setIfInBounds_toArray, List.set_cons_zero, List.set_cons_succ]
    refine wpAnyH_takeD (i := 6) (v := (.bool false)) (some 24) rfl rfl (by kernel_rfl) (by kernel_rfl) (by kernel_rfl) (fun _ _ _ h => h) (Or.inl ⟨by rfl, fun w' hSw => (by dsimp only at hSw; go_simp)⟩) (by assumption) ?_
    try simp only [Act.put, List.setIfInBounds_toArray, List.set_cons_zero, List.set_cons_succ]
    refine wpAnyH_takeD (i := 7) (v := undef) (some 25) rfl rfl (by kernel_rfl) (by kernel_rfl) (by kernel_rfl) (fun _ _ _ h => h) (Or.inr ⟨by rfl, rfl⟩) (by assumption) ?_
    try simp only [Act.put, List.setIfInBounds_toArray, List.set_cons_zero, List.set_cons_succ]
    refine wpAnyH_takeD (i := 8) (v := undef) (some 26) rfl rfl (by kernel_rfl) (by kernel_rfl) (by kernel_rfl) (fun _ _ _ h => h) (Or.inr ⟨by rfl, rfl⟩) (by assumption) ?_
    try simp only [Act.put, List.setIfInBounds_toArray, List.set_cons_zero, List.set_cons_succ]
    refine wpAnyH_takeD (i := 9) (v := undef) (some 27) rfl rfl (by kernel_rfl) (by kernel_rfl) (by kernel_rfl) (fun _ _ _ h => h) (Or.inr ⟨by rfl, rfl⟩) (by assumption) ?_
    try simp only [Act.put, List.setIfInBounds_toArray, List.set_cons_zero, List.set_cons_succ]
    refine wpAnyH_takeD (i := 10) (v := undef) (some 28) rfl rfl (by kernel_rfl) (by kernel_rfl) (by kernel_rfl) (fun _ _ _ h => h) (Or.inr ⟨by rfl, rfl⟩) (by assumption) ?_
    try simp only [Act.put, List.setIfInBounds_toArray, List.set_cons_zero, List.set_cons_succ]
    refine wpAnyH_takeD (i := 11) (v := undef) (some 29) rfl rfl (by kernel_rfl) (by kernel_rfl) (by kernel_rfl) (fun _ _ _ h => h) (Or.inr ⟨by rfl, rfl⟩) (by assumption) ?_
    try simp only [Act.put, List.setIfInBounds_toArray, List.set_cons_zero, List.set_cons_succ]
    refine wpAnyH_takeD (i := 12) (v := undef) (some 30) rfl rfl (by kernel_rfl) (by kernel_rfl) (by kernel_rfl) (fun _ _ _ h => h) (Or.inr ⟨by rfl, rfl⟩) (by assumption) ?_
    try simp only [Act.put, List.setIfInBounds_toArray, List.set_cons_zero, List.set_cons_succ]
    refine wpAnyH_takeD (i := 13) (v := undef) (some 31) rfl rfl (by kernel_rfl) (by kernel_rfl) (by kernel_rfl) (fun _ _ _ h => h) (Or.inr ⟨by rfl, rfl⟩) (by assumption) ?_
    try simp only [Act.put, List.setIfInBounds_toArray, List.set_cons_zero, List.set_cons_succ]
    refine wpAnyH_takeD (i := 14) (v := (.bool false)) (some 32) rfl rfl (by kernel_rfl) (by kernel_rfl) (by kernel_rfl) (fun _ _ _ h => h) (Or.inl ⟨by rfl, fun w' hSw => (by dsimp only at hSw; go_simp)⟩) (by assumption) ?_
    try simp only [Act.put, List.setIfInBounds_toArray, List.set_cons_zero, List.set_cons_succ]
    refine wpAnyH_done (by kernel_rfl) ?_ _
    refine NoPanic.normal ?_
    go_wp2
    refine bodyPost_end (results_none rfl _ _ _) rfl ?_
    exact ⟨⟨_, rfl⟩, v, V, l, HV.out, HST.out.below HB3.out HO.out, by rw [HT1.out]; exact HBE.out.below HB3.out, HB0.out.trans (HB3.out.mono (Nat.le_trans (by have := HO.out; unfold HK.ord at this; omega) szl)), HB3.out.size⟩
end Go.Proofs.Ytdbojkanelmlkaa
