/- Open shops: the plan by the least start: the program's walk. -/
import Derived.Test.YtkaopdpdfbkchaaShpC
import Derived.Test.YtkaopdpdfbkchaaJoinP
import Derived.Test.YtkaopdpdfbkchaaRep
import Derived.Test.YtkaopdpdfbkchaaLinB
import Derived.Deep.RegionHeld3
namespace Go.Proofs.Ytkaopdpdfbkchaa.Plain
set_option linter.unusedVariables false
set_option linter.unusedSimpArgs false
/-- the step that is chosen among the first x -/
def PickO (m : Nat) (J F : Nat → Nat) (P : Nat → Bool) (x : Nat) (bb wh : Int) : Prop :=
  (bb = -1 ∧ wh = 0 ∧ ∀ x', x' < x → P x' = true) ∨ ∃ y : Nat, bb = y ∧ y < x ∧ P y = false ∧ wh = (begF m J F y : Int) ∧ ∀ x', x' < x → P x' = false → begF m J F y ≤ begF m J F x'
theorem PickO.skip {m x : Nat} {J F : Nat → Nat} {P : Nat → Bool} {bb wh : Int} (h : PickO m J F P x bb wh) (hp : P x = true) : PickO m J F P (x + 1) bb wh := by
  rcases h with ⟨h1, h2, h3⟩ | ⟨y, h1, h2, h3, h4, h5⟩
  · exact .inl ⟨h1, h2, fun x' hx' => by
      by_cases e : x' = x
      · subst e; exact hp
      · exact h3 x' (by omega)⟩
  · exact .inr ⟨y, h1, by omega, h3, h4, fun x' hx' hp' => by
      by_cases e : x' = x
      · subst e; rw [hp] at hp'; cases hp'
      · exact h5 x' (by omega) hp'⟩
theorem PickO.first {m x : Nat} {J F : Nat → Nat} {P : Nat → Bool} (h : ∀ x', x' < x → P x' = true) (hp : P x = false) : PickO m J F P (x + 1) (x : Nat) (begF m J F x : Int) :=
  .inr ⟨x, rfl, by omega, hp, rfl, fun x' hx' hp' => by
      by_cases e : x' = x
      · subst e; exact Nat.le_refl _
      · rw [h x' (by omega)] at hp'; cases hp'⟩
theorem PickO.take {m x y : Nat} {J F : Nat → Nat} {P : Nat → Bool} (h : ∀ x', x' < x → P x' = false → begF m J F y ≤ begF m J F x') (hp : P x = false) (hle : begF m J F x ≤ begF m J F y) : PickO m J F P (x + 1) (x : Nat) (begF m J F x : Int) :=
  .inr ⟨x, rfl, by omega, hp, rfl, fun x' hx' hp' => by
      by_cases e : x' = x
      · subst e; exact Nat.le_refl _
      · exact Nat.le_trans hle (h x' (by omega) hp')⟩
theorem PickO.keep {m x y : Nat} {J F : Nat → Nat} {P : Nat → Bool} (h : ∀ x', x' < x → P x' = false → begF m J F y ≤ begF m J F x') (hy : y < x) (hpy : P y = false) (hle : begF m J F y ≤ begF m J F x) : PickO m J F P (x + 1) (y : Nat) (begF m J F y : Int) :=
  .inr ⟨y, rfl, by omega, hpy, rfl, fun x' hx' hp' => by
      by_cases e : x' = x
      · subst e; exact hle
      · exact h x' (by omega) hp'⟩
theorem OpI.bd {m s B : Nat} {t a J F : Nat → Nat} {P : Nat → Bool} (h : OpI m s B t P a J F) (x : Nat) : begF m J F x ≤ 2 * B := by
  have h1 := h.F2 (x % m)
  unfold begF
  rcases h.JF (x / m) with h2 | ⟨k, _, h2⟩
  · omega
  · have := h.F2 k; omega
theorem max_ex (F : Nat → Nat) : ∀ m, 1 ≤ m → ∃ M, (∀ k, k < m → F k ≤ M) ∧ ∃ k, k < m ∧ F k = M
  | 0, h => by omega
  | 1, _ => ⟨F 0, fun k hk => by rw [show k = 0 by omega]; exact Nat.le_refl _, 0, by omega, rfl⟩
  | m + 2, _ => by
    obtain ⟨M, h1, k0, h2, h3⟩ := max_ex F (m + 1) (by omega)
    by_cases h : F (m + 1) ≤ M
    · exact ⟨M, fun k hk => by
        by_cases e : k = m + 1
        · subst e; exact h
        · exact h1 k (by omega), k0, by omega, h3⟩
    · exact ⟨F (m + 1), fun k hk => by
        by_cases e : k = m + 1
        · subst e; exact Nat.le_refl _
        · have := h1 k (by omega); omega, m + 1, by omega, rfl⟩
/-- a plan of an open shop, and its end -/
structure PlanO (m s B : Nat) (t a : Nat → Nat) (M : Nat) : Prop where
  lo : B ≤ M
  hi : M ≤ 2 * B
  en : ∀ x, x < s → a x + t x ≤ M
  ex : ∃ x, x < s ∧ a x + t x = M
  ap : ∀ x y, x < s → y < x → nearS m x y → aptS a t x y
theorem plan_of {m s n B M : Nat} {t a J F : Nat → Nat} {P : Nat → Bool} (h : OpI m s B t P a J F) (hb : BndS m s n B t) (hall : ∀ x, x < s → P x = true) (m1 : 1 ≤ m) (s1 : 1 ≤ s) (t1 : ∀ x, x < s → 1 ≤ t x) (hM : ∀ k, k < m → F k ≤ M) (hMe : ∃ k, k < m ∧ F k = M) : PlanO m s B t a M := by
  obtain ⟨h1, h2, h3⟩ := open_done h hb hall m1 hM hMe
  refine ⟨h1, h2, h3, ?_, fun x y hx hy hn => h.ap x y hx (by omega) (hall x hx) (hall y (by omega)) (by omega) hn⟩
  obtain ⟨k, hk, e⟩ := hMe
  rcases h.ex k with h4 | ⟨x, hx, _, h5⟩
  · have := h3 0 (by omega)
    have := t1 0 (by omega)
    omega
  · exact ⟨x, hx, by rw [h5, e]⟩
end Go.Proofs.Ytkaopdpdfbkchaa.Plain
namespace Go.Proofs.Ytkaopdpdfbkchaa
open Go.RowKit Plain
set_option linter.unusedVariables false
set_option linter.unusedSimpArgs false
attribute [local go_sem ↓] Go.wp_at_zero Go.wp_at_succ
theorem natF_set (J : Nat → Nat) (x e : Nat) : (fun j => if j = x then (e : Int) else natF J j) = natF (fun j => if j = x then e else J j) := funext fun j => by
  show (if j = x then (e : Int) else (J j : Int)) = ((if j = x then e else J j : Nat) : Int)
  split <;> rfl
/-- what the call gives -/
def OpenOut (m s B : Nat) (t : Nat → Nat) (w : World) (r : Ending) (w' : World) : Prop :=
  ∃ g cap M a, r = .returned (.tuple #[.slice (some ⟨g, 0, none⟩) s cap, .int .i64 (M : Nat), .bool true]) ∧ OwnL w' w.heap.size g s cap (natF a) ∧ PlanO m s B t a M ∧ Below w.heap.size w w'
theorem ShK.s1 {m n s : Nat} (h : ShK m n s) : 1 ≤ s := by
  have := h.m1
  have := h.n1
  rw [h.e]
  exact Nat.mul_pos (by omega) (by omega)
theorem ShT.b72 {w : World} {b c m n s : Nat} {t : Nat → Nat} (h : ShT w b c m n s t) : bndM m s n t m ≤ 72 := by
  have s8 := h.k.s8
  have key : ∀ P, ldN P t s ≤ 72 := fun P => Nat.le_trans (ldN_bd fun i hi => (h.r i hi).2) (by omega)
  exact bndM_le (fun j => key _) (fun j => key _) m
set_option maxHeartbeats 4000000 in
set_option maxRecDepth 100000 in
theorem OpenPlan_any (b c m n s : Nat) (t : Nat → Nat) (w : World) (h : ShT w b c m n s t) :
    Calls Try.prog 7 #[.slice (some ⟨b, 0, none⟩) s c, .int .i64 m] w (OpenOut m s (bndM m s n t m) t w) := by
  have AS := hd (fun (w' : World) (hb : Below w.heap.size w w') => asShop_any b c m n s t w' (h.below hb))
  have HT := hd (fun (w' : World) (hb : Below w.heap.size w w') => (h.below hb).f.cl)
  have s1 := h.k.s1
  have NN := hd (fun w => none_any s s1 (by have := h.k.s8; omega) w)
  have HR := hd h.r
  have HK := hd h.k
  have HB72 := hd h.b72
  have m1 := h.k.m1
  have m3 := h.k.m3
  have n1 := h.k.n1
  have n4 := h.k.n4
  have s8 := h.k.s8
  have hbw : b < w.heap.size := block_lt_of_cell (h.f.cl 0 (by omega))
  have HBW := hd hbw
  have BN := hd (bndS_of (m := m) (s := s) (t := t) n1)
  clear h hbw
  obtain ⟨B, hB⟩ : ∃ B, B = bndM m s n t m := ⟨_, rfl⟩
  rw [← hB] at HB72 BN ⊢
  clear hB
  unfold shV at AS
  have hmk1 := fun W => run_mk 25 2 Try.underlying25 info_int n (by omega) W
  have hmk2 := fun W => run_mk 25 2 Try.underlying25 info_int m (by omega) W
  go_enter Try.func7, Try.ntmps7
  go_wp2_with fail
  go_at_call 17
  refine (AS.out _ (by go_grown)).mono ?_; rintro e w' ⟨rfl, hb⟩; have HB := hd hb; clear hb
  go_wp2_with fail
  obtain ⟨w1, hw1⟩ : ∃ w1, w1 = w'.alloc (.cells #[.slice (some ⟨b, 0, none⟩) s c, .int .i64 n, .int .i64 m] 42) := ⟨_, rfl⟩
  obtain ⟨g0, hg0⟩ : ∃ g0, g0 = w'.heap.size := ⟨_, rfl⟩
  have HX := hd (show w1.heap[g0]? = some (.cells #[.slice (some ⟨b, 0, none⟩) s c, .int .i64 n, .int .i64 m] 42 (0, 0)) by rw [hw1, hg0]; exact heap_alloc_new _ _)
  have HB1 := hd (show Below w.heap.size w w1 by rw [hw1]; exact HB.out.alloc HB.out.size _)
  have HG0 := hd (show g0 < w1.heap.size by rw [hw1, hg0]; simp)
  rw [← hw1, ← hg0]
  clear hw1 hg0 AS HB
  go_at_call 18
  refine (NN.out _).mono ?_; rintro e w2 ⟨u, rfl, ho2, hb2⟩
  obtain ⟨g, cap, rfl, hgg, hgl⟩ := own_form ho2 s1
  have HO2 := hd (show OwnL w2 w1.heap.size g s cap (fun i => if (fun _ : Nat => false) i = true then (((fun _ => 0 : Nat → Nat) i : Nat) : Int) else -1) by
    have e : fL s (fun i => if (fun _ : Nat => false) i = true then (((fun _ => 0 : Nat → Nat) i : Nat) : Int) else -1) = List.replicate s (-1) := by rw [← fL_const]; exact fL_same fun s _ => by simp
    unfold OwnL
    rw [e, List.map_replicate]; exact ho2)
  have HB2 := hd hb2
  have HG := hd hgg
  have HGL := hd hgl
  clear ho2 hb2 hgg hgl NN
  obtain ⟨x0, x1, x2⟩ := three_cells ((HB2.out.block _ HG0.out).trans HX.out)
  clear x0
  go_wp2_with fail
  refine' Code.wp_mono (ExPost2.imp (X := fun gj gf w' => OwnL w' w1.heap.size gj n n (natF fun _ => 0) ∧ OwnL w' w1.heap.size gf m m (natF fun _ => 0) ∧ gj ≠ gf ∧ g ≠ gj ∧ g ≠ gf ∧ Below w2.heap.size w2 w') (mk := _) ?_) ?_
  rotate_left 2
  focus
    go_region_held3 (fun w' => w'.cell? ⟨g0, 1, none⟩ = some (.int .i64 n) ∧ w'.cell? ⟨g0, 2, none⟩ = some (.int .i64 m)) (first | go_keep | exact ⟨x1, x2⟩) (fail)
    · obtain ⟨k1, k2, k3⟩ := OwnE.two 2 2 w2 n m w1.heap.size HB2.out.size (by omega) (by omega)
      refine ⟨w2.heap.size, w2.heap.size + 1, ?_, k1, k2, by omega, by have := HGL.out; omega, by have := HGL.out; omega, k3.drew⟩
      generalize w2.heap.size + 1 = q2
      generalize w2.heap.size = q1
      exact rfl
    · obtain ⟨k1, k2, k3⟩ := OwnE.two 2 2 w2 m n w1.heap.size HB2.out.size (by omega) (by omega)
      refine ⟨w2.heap.size + 1, w2.heap.size, ?_, k2, k1, by omega, by have := HGL.out; omega, by have := HGL.out; omega, k3.drew⟩
      generalize w2.heap.size + 1 = q2
      generalize w2.heap.size = q1
      exact rfl
  rintro gj gf w3 ⟨hj3, hf3, hn1, hn2, hn3, hb3⟩
  have HO3 := hd (own_below HO2.out hb3)
  have HJ3 := hd (show OwnL w3 w1.heap.size gj n n (natF fun _ => 0) from hj3)
  have HF3 := hd (show OwnL w3 w1.heap.size gf m m (natF fun _ => 0) from hf3)
  have HB3 := hd (below_tr hb3 HB2.out)
  have HNE := hd (And.intro hn1 (And.intro hn2 hn3))
  clear hj3 hf3 hb3 hn1 hn2 hn3 x1 x2 hmk1 hmk2 HO2 HB2 HGL
  go_wp2_with fail
  go_loopw [36] (fun iv wr => ∃ (i : Nat) (P : Nat → Bool) (a J F : Nat → Nat), i ≤ s ∧ iv = .int .i64 i ∧ Hid (ldN P (fun _ => 1) s = i) ∧ Hid (OpI m s B t P a J F) ∧ Hid (OwnL wr w1.heap.size g s cap (fun x => if P x = true then (a x : Int) else -1)) ∧ Hid (OwnL wr w1.heap.size gj n n (natF J)) ∧ Hid (OwnL wr w1.heap.size gf m m (natF F)) ∧ Hid (Below w1.heap.size w1 wr)) (fun iv _ => s - (intOf iv).toNat)
  case atStart => exact ⟨0, fun _ => false, fun _ => 0, fun _ => 0, fun _ => 0, by omega, rfl, hd (ldN_zero fun _ _ => rfl), hd (OpI.start m s B t _), HO3, HJ3, HF3, HB3⟩
  case round =>
    clear HO3 HJ3 HF3 HB3
    obtain ⟨i, P, a, J, F, hi, rfl, HC, HI, HO, HJ, HF, HBr⟩ := hrel
    by_cases hlt : i < s
    · have k2 : (i : Int) < (s : Int) := Int.ofNat_lt.2 hlt
      go_wp2
      go_loopw [12, 13, 40] (fun bv wv iv wr2 => ∃ (x q : Nat) (bb wh : Int), x ≤ s ∧ iv = .int .i64 x ∧ bv = .int .i64 bb ∧ wv = .int .i64 wh ∧ Hid (PickO m J F P x bb wh) ∧ wr2 = wr.drewN q) (fun _ _ iv _ => s - (intOf iv).toNat)
      case atStart => exact ⟨0, 0, -1, 0, by omega, rfl, rfl, rfl, hd (.inl ⟨rfl, rfl, fun x' h => by omega⟩), rfl⟩
      case round =>
        obtain ⟨x, q, bb, wh, hx, rfl, rfl, rfl, HPK, hw⟩ := hrel
        subst hw
        by_cases hlx : x < s
        · have k3 : (x : Int) < (s : Int) := Int.ofNat_lt.2 hlx
          have cO := HO.out.at (i := x) hlx
          cases hp : P x with
          | true =>
            rw [hp, if_pos rfl] at cO
            have hge : (a x : Int) ≥ 0 := by omega
            have HN := hd (HPK.out.skip hp)
            clear hp
            generalize a x = ax at *
            go_wp2
            go_roundw
            case rel => exact ⟨x + 1, q, bb, wh, by omega, by go_num, rfl, rfl, HN, rfl⟩
            case measure => simp [intOf]; omega
          | false =>
            rw [hp, if_neg (by simp)] at cO
            have HP := hd hp
            clear hp
            obtain ⟨jx, hjx⟩ : ∃ jx, jx = x / m := ⟨_, rfl⟩
            obtain ⟨kx, hkx⟩ : ∃ kx, kx = x % m := ⟨_, rfl⟩
            have hjl : jx < n := by rw [hjx]; exact Nat.div_lt_of_lt_mul (by rw [Nat.mul_comm, ← HK.out.e]; exact hlx)
            have hkl : kx < m := by rw [hkx]; exact Nat.mod_lt _ (by omega)
            have cJ := HJ.out.at (i := jx) hjl
            have cF := HF.out.at (i := kx) hkl
            obtain ⟨y0, y1, y2⟩ := three_cells ((HBr.out.block _ HG0.out).trans HX.out)
            clear y0 y1
            have dx : (x : Int).tdiv (m : Int) = (jx : Int) := by rw [hjx, Int.tdiv_eq_ediv_of_nonneg (by omega)]; rfl
            have ex : (x : Int).tmod (m : Int) = (kx : Int) := by rw [hkx, Int.tmod_eq_emod_of_nonneg (by omega)]; rfl
            have wjx : IntKind.i64.wrap (jx : Int) = (jx : Int) := IntWalk.i64_in _ (by omega)
            have hm0 : ¬ m = 0 := by omega
            have hmm : ¬ (m : Int) = -1 := by omega
            have jl : (jx : Int) < (n : Int) := by omega
            have kl : (kx : Int) < (m : Int) := by omega
            obtain ⟨st, hst⟩ : ∃ st, st = begF m J F x := ⟨_, rfl⟩
            have hst2 : st = max (J jx) (F kx) := by rw [hst, begF, hjx, hkx]
            have hmx := fun ts ty w => run_max_s ts ty (J jx) (F kx) w
            rw [← hst2] at hmx
            unfold natF at cJ cF
            have HST := hd hst
            clear hst hst2 hjx hkx
            generalize J jx = vj at *
            generalize F kx = vf at *
            go_wp2
            refine wp_region_quiet_lit (by kernel_rfl) (by kernel_rfl) ?_
            go_big_quiet_step (fail); go_big_quiet_step (fail); go_big_quiet_step (fail); go_big_quiet_step (fail); go_big_quiet_step (fail); go_big_quiet_step (fail)
            go_big_quiet_step (fail); go_big_quiet_step (fail); go_big_quiet_step (fail); go_big_quiet_step (fail); go_big_quiet_step (fail); go_big_quiet_step (fail)
            go_big_quiet_step (fail); go_big_quiet_step (fail); go_big_quiet_step (fail); go_big_quiet_step (fail)
            refine wpQuiet_nil ?_; intro _ hw'; obtain ⟨nq, hw''⟩ := hw'; subst hw''
            clear hmx y2 dx ex wjx cJ cF hjl hkl jl kl hm0 hmm cO
            go_wp2
            rcases HPK.out with ⟨h1, h2, h3⟩ | ⟨y, h1, h2, h3, h4, h5⟩
            · subst h1; subst h2
              have HN := hd (show PickO m J F P (x + 1) (x : Nat) (st : Nat) by rw [HST.out]; exact PickO.first h3 HP.out)
              clear h3 HPK
              refine wp_region_quiet_lit (by kernel_rfl) (by kernel_rfl) ?_
              go_big_quiet_step (fail); go_big_quiet_step (fail); go_big_quiet_step (fail); go_big_quiet_step (fail); go_big_quiet_step (fail); go_big_quiet_step (fail)
              go_big_quiet_step (fail); go_big_quiet_step (fail); go_big_quiet_step (fail); go_big_quiet_step (fail); go_big_quiet_step (fail); go_big_quiet_step (fail)
              go_big_quiet_step (fail); go_big_quiet_step (fail); go_big_quiet_step (fail); go_big_quiet_step (fail); go_big_quiet_step (fail); go_big_quiet_step (fail)
              go_big_quiet_step (fail); go_big_quiet_step (fail); go_big_quiet_step (fail); go_big_quiet_step (fail); go_big_quiet_step (fail)
              refine wpQuiet_nil ?_; intro _ hw'; obtain ⟨nq, hw''⟩ := hw'; subst hw''
              go_wp2
              go_roundw
              case rel => exact ⟨x + 1, _, _, _, by omega, by go_num, rfl, rfl, HN, rfl⟩
              case measure => simp [intOf]; omega
            · subst h1
              obtain ⟨wy, hwy⟩ : ∃ wy, wy = begF m J F y := ⟨_, rfl⟩
              rw [← hwy] at h4
              subst h4
              have HTK := hd (fun (hle : st ≤ wy) => show PickO m J F P (x + 1) (x : Nat) (st : Nat) by rw [HST.out]; exact PickO.take h5 HP.out (by rw [← HST.out, ← hwy]; exact hle))
              have HKP := hd (fun (hle : wy ≤ st) => show PickO m J F P (x + 1) (y : Nat) (wy : Nat) by rw [hwy]; exact PickO.keep h5 h2 h3 (by rw [← HST.out, ← hwy]; exact hle))
              have y2' : (y : Int) < (s : Int) := by omega
              have d1 : decide ((y : Int) < 0) = false := decide_eq_false (by omega)
              have cT := HT.out wr (HB1.out.trans (HBr.out.mono HB1.out.size)) x hlx
              have cT2 := HT.out wr (HB1.out.trans (HBr.out.mono HB1.out.size)) y (by omega)
              rw [Nat.zero_add] at cT cT2
              unfold natF at cT cT2
              clear h3 h5 hwy HPK
              by_cases e1 : (st : Int) < (wy : Int)
              · have d2 : decide ((st : Int) < (wy : Int)) = true := decide_eq_true e1
                have HN := hd (HTK.out (by omega))
                clear cT cT2 HTK HKP
                refine wp_region_quiet_lit (by kernel_rfl) (by kernel_rfl) ?_
                go_big_quiet_step (fail); go_big_quiet_step (fail); go_big_quiet_step (fail); go_big_quiet_step (fail); go_big_quiet_step (fail); go_big_quiet_step (fail)
                go_big_quiet_step (fail); go_big_quiet_step (fail); go_big_quiet_step (fail); go_big_quiet_step (fail); go_big_quiet_step (fail); go_big_quiet_step (fail)
                go_big_quiet_step (fail); go_big_quiet_step (fail); go_big_quiet_step (fail); go_big_quiet_step (fail); go_big_quiet_step (fail); go_big_quiet_step (fail)
                go_big_quiet_step (fail); go_big_quiet_step (fail); go_big_quiet_step (fail); go_big_quiet_step (fail); go_big_quiet_step (fail)
                refine wpQuiet_nil ?_; intro _ hw'; obtain ⟨nq, hw''⟩ := hw'; subst hw''
                go_wp2
                go_roundw
                case rel => exact ⟨x + 1, _, _, _, by omega, by go_num, rfl, rfl, HN, rfl⟩
                case measure => simp [intOf]; omega
              · have d2 : decide ((st : Int) < (wy : Int)) = false := decide_eq_false e1
                by_cases e2 : st = wy
                · subst e2
                  have HN1 := hd (HTK.out (Nat.le_refl _))
                  have HN2 := hd (HKP.out (Nat.le_refl _))
                  clear HTK HKP
                  generalize t x = tx at *
                  generalize t y = ty at *
                  by_cases e3 : (tx : Int) > (ty : Int)
                  · have d3 : decide ((tx : Int) > (ty : Int)) = true := decide_eq_true e3
                    have d4 : decide ((ty : Int) < (tx : Int)) = true := decide_eq_true e3
                    refine wp_region_quiet_lit (by kernel_rfl) (by kernel_rfl) ?_
                    go_big_quiet_step (fail); go_big_quiet_step (fail); go_big_quiet_step (fail); go_big_quiet_step (fail); go_big_quiet_step (fail); go_big_quiet_step (fail)
                    go_big_quiet_step (fail); go_big_quiet_step (fail); go_big_quiet_step (fail); go_big_quiet_step (fail); go_big_quiet_step (fail); go_big_quiet_step (fail)
                    go_big_quiet_step (fail); go_big_quiet_step (fail); go_big_quiet_step (fail); go_big_quiet_step (fail); go_big_quiet_step (fail); go_big_quiet_step (fail)
                    go_big_quiet_step (fail); go_big_quiet_step (fail); go_big_quiet_step (fail); go_big_quiet_step (fail); go_big_quiet_step (fail)
                    refine wpQuiet_nil ?_; intro _ hw'; obtain ⟨nq, hw''⟩ := hw'; subst hw''
                    go_wp2
                    go_roundw
                    case rel => exact ⟨x + 1, _, _, _, by omega, by go_num, rfl, rfl, HN1, rfl⟩
                    case measure => simp [intOf]; omega
                  · have d3 : decide ((tx : Int) > (ty : Int)) = false := decide_eq_false e3
                    have d4 : decide ((ty : Int) < (tx : Int)) = false := decide_eq_false e3
                    refine wp_region_quiet_lit (by kernel_rfl) (by kernel_rfl) ?_
                    go_big_quiet_step (fail); go_big_quiet_step (fail); go_big_quiet_step (fail); go_big_quiet_step (fail); go_big_quiet_step (fail); go_big_quiet_step (fail)
                    go_big_quiet_step (fail); go_big_quiet_step (fail); go_big_quiet_step (fail); go_big_quiet_step (fail); go_big_quiet_step (fail); go_big_quiet_step (fail)
                    go_big_quiet_step (fail); go_big_quiet_step (fail); go_big_quiet_step (fail); go_big_quiet_step (fail); go_big_quiet_step (fail); go_big_quiet_step (fail)
                    go_big_quiet_step (fail); go_big_quiet_step (fail); go_big_quiet_step (fail); go_big_quiet_step (fail); go_big_quiet_step (fail)
                    refine wpQuiet_nil ?_; intro _ hw'; obtain ⟨nq, hw''⟩ := hw'; subst hw''
                    go_wp2
                    go_roundw
                    case rel => exact ⟨x + 1, _, _, _, by omega, by go_num, rfl, rfl, HN2, rfl⟩
                    case measure => simp [intOf]; omega
                · have d3 : ((st : Int) == (wy : Int)) = false := by simp; omega
                  have HN := hd (HKP.out (by omega))
                  clear cT cT2 HTK HKP
                  refine wp_region_quiet_lit (by kernel_rfl) (by kernel_rfl) ?_
                  go_big_quiet_step (fail); go_big_quiet_step (fail); go_big_quiet_step (fail); go_big_quiet_step (fail); go_big_quiet_step (fail); go_big_quiet_step (fail)
                  go_big_quiet_step (fail); go_big_quiet_step (fail); go_big_quiet_step (fail); go_big_quiet_step (fail); go_big_quiet_step (fail); go_big_quiet_step (fail)
                  go_big_quiet_step (fail); go_big_quiet_step (fail); go_big_quiet_step (fail); go_big_quiet_step (fail); go_big_quiet_step (fail); go_big_quiet_step (fail)
                  go_big_quiet_step (fail); go_big_quiet_step (fail); go_big_quiet_step (fail); go_big_quiet_step (fail); go_big_quiet_step (fail)
                  refine wpQuiet_nil ?_; intro _ hw'; obtain ⟨nq, hw''⟩ := hw'; subst hw''
                  go_wp2
                  go_roundw
                  case rel => exact ⟨x + 1, _, _, _, by omega, by go_num, rfl, rfl, HN, rfl⟩
                  case measure => simp [intOf]; omega
        · obtain rfl : s = x := by omega
          rcases HPK.out with ⟨_, _, h3⟩ | ⟨y, h1, h2, h3, h4, h5⟩
          · exfalso
            obtain ⟨x', e1, e2⟩ := some_left (P := P) (s := s) (by rw [HC.out]; exact hlt)
            rw [h3 x' e1] at e2; cases e2
          · subst h1
            obtain ⟨wy, hwy⟩ : ∃ wy, wy = begF m J F y := ⟨_, rfl⟩
            have hw144 : wy ≤ 144 := by have := HI.out.bd y; have := HB72.out; omega
            have HPUT := hd (HI.out.put m1 h2 h3 h5 (BN.out.jb _ (Nat.div_lt_of_lt_mul (by rw [Nat.mul_comm, ← HK.out.e]; exact h2))) (BN.out.mc _ (Nat.mod_lt _ (by omega))))
            have HC2 := hd (show ldN (addP P y) (fun _ => 1) s = i + 1 by rw [cnt_addP h3 h2, HC.out])
            rw [← hwy] at h4 HPUT
            subst h4
            have HOS := hd (fun (w' : World) (ho : w'.ownsRow w1.heap.size 2 1 (.slice (some ⟨g, 0, none⟩) s cap) s (((fL s (fun x => if P x = true then (a x : Int) else -1)).map vi).set y (.int .i64 (wy : Int)))) => (OwnL.set ho h2).same (f' := fun x => if addP P y x = true then (((if x = y then wy else a x) : Nat) : Int) else -1) fun x _ => by
              unfold addP
              by_cases e : x = y
              · subst e; simp
              · simp [e])
            obtain ⟨jx, hjx⟩ : ∃ jx, jx = y / m := ⟨_, rfl⟩
            obtain ⟨kx, hkx⟩ : ∃ kx, kx = y % m := ⟨_, rfl⟩
            have hjl : jx < n := by rw [hjx]; exact Nat.div_lt_of_lt_mul (by rw [Nat.mul_comm, ← HK.out.e]; exact h2)
            have hkl : kx < m := by rw [hkx]; exact Nat.mod_lt _ (by omega)
            have dx : (y : Int).tdiv (m : Int) = (jx : Int) := by rw [hjx, Int.tdiv_eq_ediv_of_nonneg (by omega)]; rfl
            have ex : (y : Int).tmod (m : Int) = (kx : Int) := by rw [hkx, Int.tmod_eq_emod_of_nonneg (by omega)]; rfl
            have wjx : IntKind.i64.wrap (jx : Int) = (jx : Int) := IntWalk.i64_in _ (by omega)
            have hm0 : ¬ m = 0 := by omega
            have hmm : ¬ (m : Int) = -1 := by omega
            have jl : (jx : Int) < (n : Int) := by omega
            have kl : (kx : Int) < (m : Int) := by omega
            rw [← hjx, ← hkx] at HPUT
            have ht9 := (HR.out y h2).2
            have hwe : IntKind.i64.wrap ((wy : Int) + (t y : Int)) = ((wy + t y : Nat) : Int) := by rw [IntWalk.i64_in _ (by omega)]; push_cast; rfl
            have y2' : (y : Int) < (s : Int) := by omega
            obtain ⟨W, hW⟩ : ∃ W, W = wr.drewN q := ⟨_, rfl⟩
            have HOW := hd (show OwnL W w1.heap.size g s cap (fun x => if P x = true then (a x : Int) else -1) by rw [hW]; exact HO.out)
            have HJW := hd (show OwnE 2 W w1.heap.size gj n n (natF J) by rw [hW]; exact HJ.out)
            have HFW := hd (show OwnE 2 W w1.heap.size gf m m (natF F) by rw [hW]; exact HF.out)
            have HBW' := hd (show Below w1.heap.size w1 W by rw [hW]; exact below_drewN HBr.out q)
            have cT := HT.out W (HB1.out.trans (HBW'.out.mono HB1.out.size)) y h2
            rw [Nat.zero_add] at cT
            unfold natF at cT
            obtain ⟨y0, y1, y2⟩ := three_cells ((HBW'.out.block _ HG0.out).trans HX.out)
            clear y0 y1 hjx hkx h3 h5 HPK HC HI HO HJ HF HBr hwy
            rw [← hW]
            clear hW
            generalize t y = ty at *
            obtain ⟨en, hen⟩ : ∃ en, en = wy + ty := ⟨_, rfl⟩
            rw [← hen] at hwe HPUT
            clear hen
            have hgb : b ≠ g := by have := HBW.out; have := HB1.out.size; have := HG.out; omega
            have hgx : g0 ≠ g := by have := HG0.out; have := HG.out; omega
            have HST := hd (fun (w7 : World) (hg : W.grownBy w7 (some g)) => (show OwnE 2 w7 w1.heap.size gj n n (natF J) ∧ OwnE 2 w7 w1.heap.size gf m m (natF F) ∧ Below w1.heap.size w1 w7 from ⟨HJW.out.kept hg (fun e => HNE.out.2.1 e.symm), HFW.out.kept hg (fun e => HNE.out.2.2 e.symm), HBW'.out.grown hg HBW'.out.size (fun q e => by cases e; exact HG.out)⟩))
            go_wp2_with ((with_reducible refine wpList_store_own _ w1.heap.size 2 1 s cap g _ HOW.out size_int y (.int .i64 (wy : Int)) ?_ ?_ ?_ ?_ ?_); exact rfl; exact rfl; exact rfl; omega; intro w7 ho7 hg7; have cT7 := hg7.cell cT (by simp; exact hgb); have z2 := hg7.cell y2 (by simp; exact hgx))
            have HO7 := hd (HOS.out w7 ho7)
            obtain ⟨hj7, hf7, hb7⟩ := HST.out w7 hg7
            clear HOS HST HOW HJW HFW HBW' cT y2 ho7 hg7 cT7
            have hJ1 := hj7.store hjl (en : Int)
            have hF1 := hf7.store hkl (en : Int)
            have hJ2 := (hj7.kept hF1.2 HNE.out.1).store hjl (en : Int)
            have hF2 := (hf7.kept hJ1.2 (fun e => HNE.out.1 e.symm)).store hkl (en : Int)
            have hO1 := hd ((OwnE.kept (OwnE.kept HO7.out hJ1.2 HNE.out.2.1) hF2.2 HNE.out.2.2))
            have hO2 := hd ((OwnE.kept (OwnE.kept HO7.out hF1.2 HNE.out.2.2) hJ2.2 HNE.out.2.1))
            have hgj : w1.heap.size ≤ gj := own_row hj7 (Nat.le_refl _) _ rfl
            have hgf : w1.heap.size ≤ gf := own_row hf7 (Nat.le_refl _) _ rfl
            have cj := hj7.at hjl
            have cf := hf7.at hkl
            have cj2 := (hj7.kept hF1.2 HNE.out.1).at hjl
            have cf2 := (hf7.kept hJ1.2 (fun e => HNE.out.1 e.symm)).at hkl
            have fj := hj7.frozenAt jx
            have ff := hf7.frozenAt kx
            have fj2 := (hj7.kept hF1.2 HNE.out.1).frozenAt jx
            have ff2 := (hf7.kept hJ1.2 (fun e => HNE.out.1 e.symm)).frozenAt kx
            have HE1 := hd (And.intro (hJ1.1.kept hF2.2 HNE.out.1) (And.intro hF2.1 (And.intro hO1.out (below_row hF2.2 (below_row hJ1.2 hb7 (fun k e => by cases e; exact hgj)) (fun k e => by cases e; exact hgf)))))
            have HE2 := hd (And.intro hJ2.1 (And.intro (hF1.1.kept hJ2.2 (fun e => HNE.out.1 e.symm)) (And.intro hO2.out (below_row hJ2.2 (below_row hF1.2 hb7 (fun k e => by cases e; exact hgf)) (fun k e => by cases e; exact hgj)))))
            have hx1 : g0 ≠ gj := by have := HG0.out; omega
            have hx2 : g0 ≠ gf := by have := HG0.out; omega
            have z3 := hJ1.2.cell z2 (by simp; exact hx1)
            have z4 := hF1.2.cell z2 (by simp; exact hx2)
            have z5 := hF2.2.cell z3 (by simp; exact hx2)
            have z6 := hJ2.2.cell z4 (by simp; exact hx1)
            clear hJ1 hF1 hJ2 hF2 hO1 hO2 hj7 hf7 hb7 HO7
            refine' Code.wp_mono (ExPost0.imp (X := fun w' => OwnL w' w1.heap.size gj n n (fun j => if j = jx then (en : Int) else natF J j) ∧ OwnL w' w1.heap.size gf m m (fun k => if k = kx then (en : Int) else natF F k) ∧ OwnL w' w1.heap.size g s cap (fun x => if addP P y x = true then (((if x = y then wy else a x) : Nat) : Int) else -1) ∧ Below w1.heap.size w1 w') (mk := _) ?_) ?_
            rotate_left 2
            focus
              go_region_held3 (fun w' => w'.cell? ⟨g0, 2, none⟩ = some (.int .i64 m)) (first | exact z2 | exact z3 | exact z4 | exact z5 | exact z6) (fail)
              refine ⟨?_, HE1.out.1, HE1.out.2.1, HE1.out.2.2.1, HE1.out.2.2.2.drew⟩
              exact rfl
            rintro w8 ⟨h1, h2', h3, h4⟩
            have HJ8 := hd (show OwnL w8 w1.heap.size gj n n (natF fun j => if j = jx then en else J j) by rw [← natF_set]; exact h1)
            have HF8 := hd (show OwnL w8 w1.heap.size gf m m (natF fun k => if k = kx then en else F k) by rw [← natF_set]; exact h2')
            have HO8 := hd h3
            have HB8 := hd h4
            clear h1 h2' h3 h4 z2 z3 z4 z5 z6 cj cf cj2 cf2 fj ff fj2 ff2 HE1 HE2
            go_wp2
            go_roundw
            case rel => exact ⟨i + 1, _, _, _, _, by omega, by go_num, HC2, HPUT, HO8, HJ8, HF8, HB8⟩
            case measure => simp [intOf]; omega
    · obtain rfl : s = i := by omega
      have hall := all_laid HC.out
      obtain ⟨M, hM1, hM2⟩ := max_ex F m m1
      have PL := hd (plan_of HI.out BN.out hall m1 s1 (fun x hx => (HR.out x hx).1) hM1 hM2)
      have SM := hd (slicesMax_any (.slice (some ⟨gf, 0, none⟩) m m) (fL m (natF F)) wr ((OwnL.fa HF.out (by omega)).slf (by omega)) (by rw [fL_len]; omega))
      rw [maxTo_is (m := (M : Int)) (fun k hk => by have := hM1 k hk; unfold natF; omega) (by obtain ⟨k, h1, h2⟩ := hM2; exact ⟨k, h1, by unfold natF; omega⟩)] at SM
      have HO9 := hd (HO.out.same (f' := natF a) fun x hx => by rw [hall x hx, if_pos rfl]; rfl)
      clear hM1 hM2 hall
      go_wp2_with (go_at_call 19; refine SM.out.mono ?_; rintro e w' ⟨rfl, hw⟩; replace hw := hw.symm; subst hw)
      go_ret3
      exact ⟨g, cap, M, a, rfl, own_mono HO9.out HB1.out.size, PL.out, HB1.out.trans (HBr.out.mono HB1.out.size)⟩
end Go.Proofs.Ytkaopdpdfbkchaa
