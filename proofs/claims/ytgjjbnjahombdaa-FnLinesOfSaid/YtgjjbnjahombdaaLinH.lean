/- The fewest stations: the program's LeastStations, a contract. -/
import Derived.Test.YtgjjbnjahombdaaLinE
import Derived.Test.YtgjjbnjahombdaaLinG
import Derived.Test.YtgjjbnjahombdaaRepX
namespace Go.Proofs.Ytgjjbnjahombdaa
open Go.RowKit Plain
set_option linter.unusedVariables false
set_option linter.unusedSimpArgs false
attribute [local go_sem ↓] Go.wp_at_zero Go.wp_at_succ
/-- the fewest stations -/
def FewOut (c n : Nat) (t bf : Nat → Nat) (w : World) (r : Ending) (w' : World) : Prop :=
  (∃ g K A, r = .returned (.tuple #[.slice (some ⟨g, 0, none⟩) n n, .int .i64 (K : Nat), .bool true]) ∧ FeasL c n t bf K A ∧ K ≤ 12 ∧ (∀ K' A', FeasL c n t bf K' A' → K ≤ K') ∧ OwnL w' w.heap.size g n n (fun i => (A i : Int))) ∧ Below w.heap.size w w'
theorem size_putL : (Try.prog.info? 47).map (·.size) = some 1 := by kernel_rfl
set_option maxHeartbeats 8000000 in
set_option maxRecDepth 100000 in
theorem LeastStations_any (b o cp b2 o2 cp2 n c : Nat) (t bf : Nat → Nat) (w : World) (h : FA w b o cp n (fun i => (t i : Int))) (h2 : FA w b2 o2 cp2 n (fun i => (bf i : Int))) (hp : LineP n c t bf) :
    Calls Try.prog 8 #[.slice (some ⟨b, o, none⟩) n cp, .slice (some ⟨b2, o2, none⟩) n cp2, .int .i64 c] w (FewOut c n t bf w) := by
  have n1 := hp.n1
  have n12 := hp.n12
  have cc1 := hp.c1
  have cc0 : 1 ≤ c := by have := hp.t1 0 n1; have := hp.tc 0 n1; omega
  have IL := hd (fun w' (hb : Below w.heap.size w w') => IsLine_any b o cp b2 o2 cp2 n c t bf w' (h.below hb) (h2.below hb) hp)
  have IC := hd (isCycle_any c cc0 cc1)
  obtain ⟨mx, hmx0, hmx1⟩ : ∃ mx : Nat, mx ≤ c ∧ ∀ w', FA w' b o cp n (fun i => (t i : Int)) → Calls Try.prog 18 #[.slice (some ⟨b, o, none⟩) n cp] w' fun r w2 => r = .returned (.int .i64 mx) ∧ w' = w2 := maxT_any b o cp n c t n1 (by omega) hp.tc
  have MX := hd (fun w' (hb : Below w.heap.size w w') => hmx1 w' (h.below hb))
  have hmc : decide (c < mx) = false := decide_eq_false (by omega)
  have FS := hd (fun w' (hb : Below w.heap.size w w') => fewest_any b o cp b2 o2 cp2 n c t bf w' (h.below hb) (h2.below hb) hp)
  have SM := hd (fun w' (hb : Below w.heap.size w w') => sumOf_any b o cp n _ w' (h.below hb) (by omega) (fun i hi => by have := hp.tc i hi; omega))
  have KB := hd (fun p (hpp : tblR c n t bf (2 ^ n) (2 ^ n - 1) = some p) => (show 1 ≤ p.1 ∧ p.1 ≤ 12 from by
    obtain ⟨p', h1, h2⟩ := dp_least (c := c) (t := t) (bf := bf) (K := n) (A := fun i => i) hp.bl n1 (feas_own hp.bl hp.tc)
    rw [hpp] at h1
    cases h1
    obtain ⟨A, hA⟩ := dp_feas hp.tc hpp
    have := hA.1 0 n1
    exact ⟨by omega, by omega⟩))
  have HT := hd h
  have HBF := hd h2
  have HP := hd hp
  have hblk : b < w.heap.size ∧ b2 < w.heap.size := ⟨block_lt_of_cell (h.cl 0 n1), block_lt_of_cell (h2.cl 0 n1)⟩
  clear h h2 hp hmx1 hmx0
  go_enter Try.func8, Try.ntmps8
  go_wp2_with (first
    | (go_at_call 11; refine (IL.out _ (by go_grown)).mono ?_; rintro e w' ⟨rfl, hw⟩; replace hw := hw.symm; subst hw)
    | (go_at_call 17; refine (IC.out _).mono ?_; rintro e w' ⟨rfl, hw⟩; replace hw := hw.symm; subst hw)
    | (go_at_call 18; refine (MX.out _ (by go_grown)).mono ?_; rintro e w' ⟨rfl, hw⟩; subst hw)
    | (go_at_call 20; refine (FS.out _ (by go_grown)).mono ?_; rintro e w1 ⟨⟨p, hp, rfl⟩, hb⟩; have c1T := below_at hb (a := ⟨w.heap.size, 0, none⟩) (v := .slice (some ⟨b, o, none⟩) n cp) (by simp [go_sem]); have c1B := below_at hb (a := ⟨w.heap.size + 1, 0, none⟩) (v := .slice (some ⟨b2, o2, none⟩) n cp2) (by simp [go_sem]); have hs1 := hb.size; simp only [World.size_alloc] at hs1; have HB1 := hd (show Below w.heap.size w w1 from below_tr hb (by go_grown)); clear hb; have c1Ta := fun X => Lib.cell?_alloc_some X c1T; obtain ⟨K, hK⟩ : ∃ K, K = p.1 := ⟨_, rfl⟩; have HP1 := hd hp; rw [← hK]; have HKE := hd hK; have hK12 : 1 ≤ K ∧ K ≤ 12 := (by rw [hK]; exact KB.out p hp); clear hK hp)
    | (at_make; go_must (refine wpList_make_int _ rfl _ rfl _ _ n rfl rfl (by omega) ?_); intro w2 ho2 hb2; have HBm := hd (show Below w.heap.size w w2 from below_tr hb2 (HB1.out.alloc HB1.out.size _)); have c2T := below_at hb2 (c1Ta (.cells #[.int .i64 (K : Int)] 2)); have c2C := below_at hb2 (a := ⟨w1.heap.size, 0, none⟩) (v := .int .i64 (K : Int)) ((World.cell?_alloc_new ..).trans rfl); have c2Ta := fun X => Lib.cell?_alloc_some X c2T; have c2Ca := fun X Y => Lib.cell?_alloc_some Y (Lib.cell?_alloc_some X c2C))
    | (go_at_call 21; refine (repeat_anyX (c : Int) K hK12.1 (by omega) (w2.heap.size + 1) _ (by simp [go_sem])).mono ?_; rintro e w3 ⟨u3, rfl, ho3, hb3⟩; obtain ⟨gR, cR, rfl, hgR, hgR2⟩ := own_form ho3 hK12.1; have c3T := below_at hb3 (Lib.cell?_alloc_some _ (c2Ta _)); have c3Ta := fun X => Lib.cell?_alloc_some X c3T; have HB3 := hd (show Below w.heap.size w w3 from below_tr hb3 ((HBm.out.alloc HBm.out.size _).alloc (by have := HBm.out.size; simp; omega) _)))
    | (go_at_call 22; refine (SM.out _ (HB3.out.alloc HB3.out.size _)).mono ?_; rintro e w' ⟨rfl, hw⟩; replace hw := hw.symm; subst hw)
    | ((with_reducible refine wpList_store_box _ (w3.heap.size + 1 + 1) #[.nilFunc] 47 ?_ size_putL 0 (.func (.func 23) #[] #[.pointer (some ⟨w.heap.size, 0, none⟩), .pointer (some ⟨w.heap.size + 1, 0, none⟩), .pointer (some ⟨w2.heap.size, 0, none⟩), .pointer (some ⟨w1.heap.size, 0, none⟩), .pointer (some ⟨w3.heap.size, 0, none⟩), .pointer (some ⟨w3.heap.size + 1, 0, none⟩), .pointer (some ⟨w3.heap.size + 1 + 1, 0, none⟩)]) ?_ ?_ ?_ ?_ ?_); (simp only [heap_alloc_get, World.size_alloc]; simp); exact rfl; exact rfl; exact rfl; exact (show 0 < 1 by decide); intro w5 hx5 hg5; have c5P := (cell_of_row _ _ 0 _ _ _ hx5).trans rfl))
  have e1 : (w1.alloc (.cells #[.int .i64 (K : Int)] 2)).heap.size = w1.heap.size + 1 := by simp
  rw [e1] at ho2 hb2
  have lO := (World.ownsRow.lt ho2 (w1.heap.size + 1) rfl).2
  have hbA : Below w2.heap.size w2 ((w2.alloc (.cells #[.slice (some ⟨w1.heap.size + 1, 0, none⟩) n n] 25)).alloc (.cells #[.int .i64 (c : Int)] 2)) := ((Below.refl _ _).alloc (Nat.le_refl _) _).alloc (by simp) _
  have b23 := below_tr hb3 hbA
  have b12 : Below w1.heap.size w1 w2 := by
    have := (Below.refl w1.heap.size w1).alloc (Nat.le_refl _) (.cells #[.int .i64 (K : Int)] 2)
    exact below_tr (w0 := w1) (by rw [e1]; exact hb2) this
  have b13 := below_tr b23 b12
  have hg3s := hb3.size
  simp only [World.size_alloc] at hg3s hgR
  have LIFT := hd (fun (a : Addr) (v : Value) (h : w3.cell? a = some v) (hlt : a.block < w3.heap.size) => hg5.cell (Lib.cell?_alloc_some _ (Lib.cell?_alloc_some _ (Lib.cell?_alloc_some _ h))) (by intro e; have := Option.some.inj e; omega))
  have sz5 := hg5.size
  simp only [World.size_alloc] at sz5
  obtain ⟨k, hk⟩ : ∃ k : LK, k = ⟨w.heap.size, b, o, cp, b2, o2, cp2, w.heap.size, w.heap.size + 1, w1.heap.size, w1.heap.size + 1, w2.heap.size, gR, cR, w3.heap.size, w3.heap.size + 1, w3.heap.size + 1 + 1, w3.heap.size + 1 + 1 + 1⟩ := ⟨_, rfl⟩
  have ord : k.ord := by subst hk; unfold LK.ord; simp only; omega
  have cB3 := below_at b13 c1B
  have cC3 := below_at b23 c2C
  have cO3 := below_at hb3 (Lib.cell?_alloc_some (.cells #[.int .i64 (c : Int)] 2) (show (w2.alloc (.cells #[.slice (some ⟨w1.heap.size + 1, 0, none⟩) n n] 25)).cell? ⟨w2.heap.size, 0, none⟩ = some (.slice (some ⟨w1.heap.size + 1, 0, none⟩) n n) from (World.cell?_alloc_new ..).trans rfl))
  have fx5 : LFix k w5 n K := by
    subst hk
    exact ⟨LIFT.out _ _ c3T (by simp only; omega), LIFT.out _ _ cB3 (by simp only; omega), LIFT.out _ _ cC3 (by simp only; omega), LIFT.out _ _ cO3 (by simp only; omega), hg5.cell (Lib.cell?_alloc_some _ (Lib.cell?_alloc_some _ ((World.cell?_alloc_new ..).trans rfl))) (by simp; omega), c5P⟩
  have hst : LSt k w5 n K (fun _ => 0) (fun _ => (c : Int)) (sumN t n : Int) := by
    have f5 := fx5
    have hba : ∀ (X Y Z : Obj), Below w3.heap.size w3 (((w3.alloc X).alloc Y).alloc Z) := fun X Y Z => (((Below.refl _ _).alloc (Nat.le_refl _) _).alloc (by simp) _).alloc (by simp; omega) _
    subst hk
    refine ⟨f5, ?_, ?_, ?_, by simp only; omega⟩
    · refine (hg5.block (w3.heap.size + 1) (by simp) (by simp)).trans ?_
      rw [heap_alloc_get, if_neg (by simp), heap_alloc_get, if_pos (by simp), sumZ_nat]
    · have h3 : w2.ownsRow w.heap.size 2 1 (.slice (some ⟨w1.heap.size + 1, 0, none⟩) n n) n ((fL n fun _ => 0).map vi) := by
        rw [fL_const, List.map_replicate]
        exact own_mono ho2 (by omega)
      refine (own_below (own_below h3 b23) (hba _ _ _)).kept hg5 (.inr ?_)
      simp only [Value.ownBlock, Option.map_some, ne_eq, Option.some.injEq]; omega
    · have h3 : w3.ownsRow w.heap.size 2 1 (.slice (some ⟨gR, 0, none⟩) K cR) K ((fL K fun _ => (c : Int)).map vi) := by
        rw [fL_const, List.map_replicate]
        exact own_mono ho3 (by simp; omega)
      refine (own_below h3 (hba _ _ _)).kept hg5 (.inr ?_)
      simp only [Value.ownBlock, Option.map_some, ne_eq, Option.some.injEq]; omega
  have HB5 : Below w.heap.size w w5 := below_row hg5 (((HB3.out.alloc HB3.out.size _).alloc (by have := HB3.out.size; simp; omega) _).alloc (by have := HB3.out.size; simp; omega) _) (fun q e => by cases e; omega)
  obtain ⟨A0, hA0⟩ := dp_feas (c := c) HP.out.tc HP1.out
  rw [← HKE.out] at hA0
  have LEAST := hd (fun K' A' (h : FeasL c n t bf K' A') => (show K ≤ K' by
    obtain ⟨p', h1, h2⟩ := dp_least HP.out.bl n1 h
    rw [HP1.out] at h1
    cases h1
    rw [HKE.out]; exact h2))
  have X := put_any k w c n t bf K (by subst hk; exact HT.out) (by subst hk; exact HBF.out) HP.out ord (by subst hk; rfl) hK12.2 (feas_total hA0) n 0 (by omega) (fun _ => 0) w5 _ _ _ (by subst hk; exact HB5) hst (fun j hj => by omega) (fun s hs => by rw [rmF]; simp [ldN]) (by simp [sumN]) ⟨fun j hj => by omega, fun j hj => by omega, fun s => by simp [ldN]⟩
  have X2 : Calls Try.prog 23 #[.int .i64 0, .pointer (some ⟨w.heap.size, 0, none⟩), .pointer (some ⟨w.heap.size + 1, 0, none⟩), .pointer (some ⟨w2.heap.size, 0, none⟩), .pointer (some ⟨w1.heap.size, 0, none⟩), .pointer (some ⟨w3.heap.size, 0, none⟩), .pointer (some ⟨w3.heap.size + 1, 0, none⟩), .pointer (some ⟨w3.heap.size + 1 + 1, 0, none⟩)] w5 (PutOut k w c n t bf K (fun _ => 0) 0 w5) := by subst hk; exact X
  have EK := hd (show k.xC = w1.heap.size ∧ k.xO = w2.heap.size ∧ k.B = w.heap.size ∧ k.gO = w1.heap.size + 1 by subst hk; exact ⟨rfl, rfl, rfl, rfl⟩)
  have HA0 := hd hA0
  clear ho2 hb2 ho3 hb3 hg5 hx5 c5P e1 lO hbA b23 b12 b13 hg3s LIFT sz5 cB3 cC3 cO3 fx5 hst HB5 X hk c1T c1B c1Ta c2T c2C c2Ta c2Ca c3T c3Ta hgR hgR2 hA0 ord hs1
  refine X2.mono ?_
  rintro e w6 ⟨bb, o6, r6, l6, rfl, hs6, hb6, hif⟩
  have hbt : bb = true := by
    cases bb with
    | true => rfl
    | false =>
      rw [if_neg (by simp)] at hif
      exact absurd ⟨A0, HA0.out, fun j hj => by omega⟩ hif.1
  subst hbt
  rw [if_pos rfl] at hif
  obtain ⟨A, hA, hoA⟩ := hif
  have cO := hs6.fx.cO
  have cC := hs6.fx.cC
  rw [EK.out.2.1, EK.out.2.2.2] at cO
  rw [EK.out.1] at cC
  have hrO := hs6.rO
  rw [EK.out.2.2.2, EK.out.2.2.1] at hrO
  rw [EK.out.2.2.1] at hb6
  have HRO := hd (hrO.same hoA)
  have HB6 := hd hb6
  have HAA := hd hA
  clear X2 hs6 EK hrO hb6 hoA hA
  go_wp2_with fail
  go_quiet (fail)
  go_wp2
  go_ret3
  exact ⟨⟨w1.heap.size + 1, K, A, rfl, HAA.out, hK12.2, LEAST.out, HRO.out⟩, below_drewN HB6.out nq⟩
end Go.Proofs.Ytgjjbnjahombdaa
