/- Rows matched with columns, the program's side: the whole (made by tools/mkmatch.py). -/
import Derived.Test.YtjcmgjjnkbhamaaProg
import Derived.Test.YtjcmgjjnkbhamaaMatchP
namespace Go.Proofs.Ytjcmgjjnkbhamaa
open Go.RowKit Plain
set_option linter.unusedVariables false
set_option linter.unusedSimpArgs false
attribute [local go_sem ↓] Go.wp_at_zero Go.wp_at_succ

theorem size_look : (Try.prog.info? 58).map (·.size) = some 1 := by kernel_rfl
theorem own_form {w : World} {base size n : Nat} {e : TypeId} {v : Value} {xs : List Value} (h : w.ownsRow base e size v n xs) (hn : 1 ≤ n) : ∃ g c, v = .slice (some ⟨g, 0, none⟩) n c ∧ base ≤ g ∧ g < w.heap.size := by
  rcases h.2 with ⟨_, h⟩ | ⟨g, cap, cur, hv, hb, hg, _⟩
  · omega
  · exact ⟨g, cap, hv, hb, (Array.getElem?_eq_some_iff.1 hg).1⟩

set_option maxHeartbeats 4000000 in
set_option maxRecDepth 100000 in
theorem match_FewestVehicles (f : Nat → Nat → Bool) (rows p x1 x2 : Nat) (w : World) (p1 : 1 ≤ p) (p2 : p ≤ 24) (r2 : rows ≤ 24)
    (HF : Hid (∀ w', Below w.heap.size w w' → ∀ i k, i < rows → k < p → Calls Try.prog 18 #[.int .i64 (i : Nat), .int .i64 (k : Nat), .pointer (some ⟨x1, 0, none⟩), .pointer (some ⟨x2, 0, none⟩)] w' fun e w2 => e = .returned (.bool (f i k)) ∧ Below w'.heap.size w' w2)) :
    Calls Try.prog 17 #[.int .i64 rows, .int .i64 p, .func (.func 18) #[] #[.pointer (some ⟨x1, 0, none⟩), .pointer (some ⟨x2, 0, none⟩)]] w (NewRow 2 1 p ((matM f p rows).map vi) w) := by
  have NN := hd (fun w => none_any p p1 (by omega) w)
  have LK := hd (fun g1 c1 g2 bR bS bF bO bL n1 n2 i s w' hi h1 h2 h3 h4 h5 => look_FewestVehicles f rows p w.heap.size g1 c1 g2 bR bS bF bO bL x1 x2 w p1 p2 r2 n1 n2 (Nat.le_refl _) HF (p + 1) i s w' hi h1 h2 h3 h4 h5)
  have MK := hd (fun i hi => matM_ok f rows p i hi)
  clear HF
  go_enter Try.func17, Try.ntmps17
  go_wp2_with (first
    | (go_at_call 20; refine (NN.out _).mono ?_; rintro e w2 ⟨cu, rfl, ho2, hb2⟩; obtain ⟨g1, c1, rfl, hg11, hg12⟩ := own_form ho2 p1; simp only [World.size_alloc] at hg11; have cR2 := below_at hb2 (a := ⟨w.heap.size, 0, none⟩) (v := .int .i64 p) (by simp [go_sem]); have cF2 := below_at hb2 (a := ⟨w.heap.size + 1, 0, none⟩) (v := .func (.func 18) #[] #[.pointer (some ⟨x1, 0, none⟩), .pointer (some ⟨x2, 0, none⟩)]) (by simp [go_sem]); have cR3 := fun o => Lib.cell?_alloc_some o cR2; have HB2 := hd (below_tr hb2 (show Below w.heap.size w _ from by go_grown)); have HO2 := hd (own_mono ho2 (show w.heap.size ≤ _ by simp; omega)); clear ho2 hb2)
    | (at_make; go_must (refine wpList_make_bool _ rfl _ rfl _ _ p rfl rfl (by omega) ?_); intro w3 ho3 hb3)
    | ((with_reducible refine wpList_store_box _ (w3.heap.size + 1) #[.nilFunc] 58 ?_ size_look 0 (.func (.func 28) #[] #[.pointer (some ⟨w.heap.size, 0, none⟩), .pointer (some ⟨w3.heap.size, 0, none⟩), .pointer (some ⟨w.heap.size + 1, 0, none⟩), .pointer (some ⟨w2.heap.size, 0, none⟩), .pointer (some ⟨w3.heap.size + 1, 0, none⟩)]) ?_ ?_ ?_ ?_ ?_); (simp only [heap_alloc_get, World.size_alloc]; simp); exact rfl; exact rfl; exact rfl; exact (show 0 < 1 by decide); intro w5 hx5 hg5))
  have hs3 := hb3.size
  have hl3 := (World.ownsRow.lt ho3 _ rfl).2
  simp only [World.size_alloc] at hs3 hl3
  have LIFT := fun (a : Addr) (v : Value) (h : (w2.alloc (.cells #[.slice (some ⟨g1, 0, none⟩) p c1] 27)).cell? a = some v) (hne : a.block ≠ w3.heap.size + 1) => hg5.cell (Lib.cell?_alloc_some _ (Lib.cell?_alloc_some _ (below_at hb3 h))) (by intro e; exact hne (Option.some.inj e))
  have HL := hd (show LookB w5 (.func (.func 18) #[] #[.pointer (some ⟨x1, 0, none⟩), .pointer (some ⟨x2, 0, none⟩)]) w.heap.size w3.heap.size (w.heap.size + 1) w2.heap.size (w3.heap.size + 1) g1 c1 (w2.heap.size + 1) p from
    ⟨LIFT _ _ (cR3 _) (by simp only; omega), hg5.cell (Lib.cell?_alloc_some _ ((World.cell?_alloc_new ..).trans rfl)) (by simp), LIFT _ _ (Lib.cell?_alloc_some _ cF2) (by simp only; omega), LIFT _ _ ((World.cell?_alloc_new ..).trans rfl) (by simp only; omega), (cell_of_row _ _ 0 _ _ _ hx5).trans rfl⟩)
  have HBA := (Below.refl w2.heap.size w2).alloc (Nat.le_refl _) (.cells #[.slice (some ⟨g1, 0, none⟩) p c1] 27)
  have HBB := below_tr hb3 HBA
  have hbc : ∀ o1 o2, Below w3.heap.size w3 ((w3.alloc o1).alloc o2) := fun o1 o2 => ((Below.refl _ _).alloc (Nat.le_refl _) _).alloc (by simp) _
  have HO3 : w3.ownsRow (w2.heap.size + 1) 4 1 (.slice (some ⟨w2.heap.size + 1, 0, none⟩) p p) p ((List.replicate p false).map vb) := by simpa [vb] using ho3
  have HP := hd (show ∃ sn, PairR w5 w.heap.size g1 c1 (w2.heap.size + 1) p ⟨matM f p 0, sn⟩ from ⟨List.replicate p false,
    own_kept (u := .slice (some ⟨w3.heap.size + 1, 0, none⟩) 1 1) (own_below (own_below (by simpa [matM, vi] using HO2.out) HBB) (hbc _ _)) hg5 (dj_ne (by omega)),
    own_kept (u := .slice (some ⟨w3.heap.size + 1, 0, none⟩) 1 1) (own_below (own_mono HO3 (by have := HB2.out.size; omega)) (hbc _ _)) hg5 (dj_ne (by omega)), by omega⟩)
  have HBW := hd (belowB (below_tr (hbc _ _) (below_tr HBB HB2.out)) hg5 (by have := HB2.out.size; omega) (Nat.le_refl _))
  have N1 := hd (show BoxNe w.heap.size w3.heap.size (w.heap.size + 1) w2.heap.size (w3.heap.size + 1) g1 from ⟨by omega, by omega, by omega, by omega, by omega⟩)
  have N2 := hd (show BoxNe w.heap.size w3.heap.size (w.heap.size + 1) w2.heap.size (w3.heap.size + 1) (w2.heap.size + 1) from ⟨by omega, by omega, by omega, by omega, by omega⟩)
  have HG1 := hd (show w.heap.size ≤ g1 by omega)
  have HG2 := hd (show w.heap.size ≤ w2.heap.size + 1 by omega)
  clear LIFT HBA HBB hbc hx5 hg5 hb3 ho3 HO3 HO2 HB2 cR2 cF2 cR3 hs3 hl3 hg11 hg12
  generalize w2.heap.size + 1 = g2 at *
  generalize hbl : w3.heap.size + 1 = bL at *
  clear hbl
  generalize hbs : w3.heap.size = bS at *
  clear hbs
  generalize hbo : w2.heap.size = bO at *
  clear hbo
  go_loopw [17] (fun ix wr => ∃ i : Nat, i ≤ rows ∧ ix = .int .i64 i ∧ Hid (LookB wr (.func (.func 18) #[] #[.pointer (some ⟨x1, 0, none⟩), .pointer (some ⟨x2, 0, none⟩)]) w.heap.size bS (w.heap.size + 1) bO bL g1 c1 g2 p) ∧ Hid (∃ sn, PairR wr w.heap.size g1 c1 g2 p ⟨matM f p i, sn⟩) ∧ Hid (Below w.heap.size w wr)) (fun ix _ => rows - (intOf ix).toNat)
  case atStart => exact ⟨0, by omega, rfl, HL, HP, HBW⟩
  case round =>
    clear HL HP HBW
    obtain ⟨i, hi, rfl, HL, HP, HB⟩ := hrel
    by_cases hlt : i < rows
    · obtain ⟨sn, hp⟩ := HP.out
      have HP2 := hd hp
      clear hp
      obtain ⟨w6, hrun, HC⟩ := clear_run wr w.heap.size p g2 _ p1 HP2.out.2.1
      have OK := hd (okM_new (MK.out i hi).1 (MK.out i hi).2)
      have HL6 := hd (HL.out.grown HC.out.2 N2.out)
      have HB6 := hd (belowB HB.out HC.out.2 HG2.out (Nat.le_refl _))
      have HP6 := hd (show PairR w6 w.heap.size g1 c1 g2 p ⟨matM f p i, List.replicate p false⟩ from ⟨own_kept (u := .slice (some ⟨g2, 0, none⟩) p p) HP2.out.1 HC.out.2 (dj_ne HP2.out.2.2), HC.out.1, HP2.out.2.2⟩)
      have i1 : (i : Int) < (rows : Int) := by omega
      have ls := HL.out.s
      have ll := HL6.out.l
      go_wp2_with (go_at_call 28; refine (LK.out g1 c1 g2 _ _ _ _ _ N1.out N2.out i ⟨matM f p i, List.replicate p false⟩ _ hlt (hd OK.out.1) OK.out.2 HB6.out HL6.out HP6.out).mono ?_; rintro e w7 ⟨rfl, hL7, hP7, hb7⟩; have HL7 := hd hL7; have HP7 := hd hP7; have HB7 := hd hb7; clear hL7 hP7 hb7)
      go_roundw
      case rel => exact ⟨i + 1, by omega, by go_num, HL7, hd ⟨_, HP7.out⟩, HB7⟩
      case measure => simp [intOf]; omega
    · have e : i = rows := by omega
      subst e
      have lo := HL.out.o
      obtain ⟨sn, hp⟩ := HP.out
      have HP2 := hd hp
      clear hp
      go_wp2
      go_ret
      exact ⟨_, rfl, HP2.out.1, HB.out⟩
end Go.Proofs.Ytjcmgjjnkbhamaa
