/- The laws' helpers on slices of complex64: equality, marks. -/
import Derived.Test.YtdhmnajkmeclnaaProg
import Derived.Test.YtdhmnajkmeclnaaCxSlice
import Derived.Test.YtdhmnajkmeclnaaSlice
import Derived.Test.YtdhmnajkmeclnaaSameF
import Derived.Test.YtdhmnajkmeclnaaPhasT
import Derived.Test.YtdhmnajkmeclnaaFloatConv
import Derived.Laws.ComplexArith
namespace Go.Proofs.Ytdhmnajkmeclnaa
open Go.RowKit Plain
open Ieee
set_option linter.unusedVariables false
set_option linter.unusedSimpArgs false
attribute [local go_sem ↓] Go.wp_at_zero Go.wp_at_succ
attribute [local go_sem] run_store_complex
theorem wide_ok {a : Nat} (h : nrm .f32 a = some a) : ∃ r, floatToFloatBits .f32 a .f64 = some r ∧ nrm .f64 r = some r := by
  have hn := (nrm_some h).2
  cases hd' : Ieee.single.read a with
  | nan s f => rw [show FloatKind.f32.format = Ieee.single from rfl, hd'] at hn; cases hn
  | infinity s =>
    refine ⟨Ieee.double.write (.infinity s), by simp [floatToFloatBits, FloatKind.decode, FloatKind.encode, FloatKind.format, hd'], ?_⟩
    rw [nrm, if_neg (by rw [show FloatKind.f64.format = Ieee.double from rfl, write_isNaN _ _ rfl]; simp)]
  | number s m e =>
    obtain ⟨h1, h2, h3⟩ := single_num hd'
    have hi := double_fits s m e h1 h2 h3
    have hi' : (Ieee.double.read (Ieee.double.write (.number s m e))).isInfinity = false := hi
    refine ⟨Ieee.double.write (.number s m e), by simp [floatToFloatBits, FloatKind.decode, FloatKind.encode, FloatKind.format, hd', hi'], ?_⟩
    rw [nrm, if_neg (by rw [show FloatKind.f64.format = Ieee.double from rfl, write_isNaN _ _ rfl]; simp)]
theorem word_num {v : Bool} {r : Nat} (h : r ≤ single.infRung) : nrm .f32 (single.word v r) = some (single.word v r) := by
  rw [nrm, show FloatKind.f32.format = single from rfl, read_word_isNaN single v r h]
  rfl
/-- both parts are numbers -/
def NumC (x : Nat × Nat) : Prop := nrm .f32 x.1 = some x.1 ∧ nrm .f32 x.2 = some x.2
theorem nar_gen {v : Bool} {z R : Nat} (hz : z < double.infRung) (hR : R < single.infRung) (h : rv double z ≤ rv single R) : floatToFloatBits .f64 (double.word v z) .f32 = some (narW (double.word v z)) ∧ ∃ t r, narW (double.word v z) = single.word t r ∧ r ≤ R := by
  obtain ⟨K, L, h1, h2⟩ := read_sign double v hz
  have e : narW (double.word v z) = single.word v (rnd single K L) := by
    rw [narW, h1]
    exact nearest_eq single v K L
  have hr : rnd single K L ≤ R := rnd_le single (by rw [h2]; exact h)
  refine ⟨?_, v, rnd single K L, e, hr⟩
  have hi : (single.read (single.word v (rnd single K L))).isInfinity = false := read_word_num single v _ (by omega)
  have hw : single.write (.number v K L) = single.word v (rnd single K L) := nearest_eq single v K L
  simp only [floatToFloatBits, FloatKind.decode, FloatKind.encode, FloatKind.format, h1, hw, hi, e]
  simp
def mkC (k : Int) : Nat × Nat := (narW (floatOfInt .f64 k), narW 4607182418800017408)
theorem mkC_ok {k : Int} (h0 : 0 ≤ k) (h1 : k ≤ 2199023255552) : cConvBits .f64 (floatOfInt .f64 k) 4607182418800017408 .f32 = some (mkC k) ∧ NumC (mkC k) := by
  obtain ⟨n, rfl⟩ := Int.eq_ofNat_of_zero_le h0
  have e : floatOfInt .f64 (n : Int) = double.word false (rnd double n 0) := by
    show double.write (.number (decide ((n : Int) < 0)) (n : Int).natAbs 0) = _
    rw [decide_eq_false (by omega), Int.natAbs_natCast]
    exact nearest_eq double false n 0
  have b1 : rv double 4791830003522207744 = 2199023255552 := by decide +kernel
  have b2 : rv single 1409286144 = 2199023255552 := by decide +kernel
  have hb : rnd double n 0 ≤ 4791830003522207744 := rnd_le double (by
    rw [b1, ev_nat]
    have : ((2199023255552 : Nat) : Rat) = 2199023255552 := rfl
    rw [← this]
    exact Rat.natCast_le_natCast.2 (by omega))
  have hv : rv double (rnd double n 0) ≤ rv single 1409286144 := by
    rw [b2, ← b1]
    exact (rv_le double (by rw [dinf]; omega)).2 hb
  obtain ⟨f1, t, r, f2, f3⟩ := nar_gen (v := false) (show rnd double n 0 < double.infRung by rw [dinf]; omega) (by rw [sinf]; omega) hv
  obtain ⟨g1, t', r', g2, g3⟩ := nar_ok (v := false) (z := 4607182418800017408) (by omega)
  rw [word_false] at g1 g2
  rw [cConvBits, e, f1, g1]
  refine ⟨by rw [mkC, e]; rfl, ?_, ?_⟩
  · rw [mkC, e, f2]
    exact word_num (by rw [sinf]; omega)
  · show nrm .f32 (narW 4607182418800017408) = some (narW 4607182418800017408)
    rw [g2]
    exact word_num (by rw [sinf]; omega)
def marksC (n : Nat) (m : Int) : List (Nat × Nat) := (List.range n).map fun (i : Nat) => mkC (m + (i : Int))
theorem marksC_get (n : Nat) (k : Int) (i : Nat) (h : i < n) : (marksC n k)[i]? = some (mkC (k + i)) := by simp [marksC, h]
set_option maxHeartbeats 1000000 in
theorem sameComplex_num {a b : Nat} (h1 : nrm .f64 a = some a) (h2 : nrm .f64 b = some b) (w : World) : Calls Try.prog 20 #[.complex .f64 a b, .complex .f64 a b] w (Draws (.bool true) w) := by
  have H1 := hd (fun w => sameFloat_any a a _ w h1 h1)
  have H2 := hd (fun w => sameFloat_any b b _ w h2 h2)
  clear h1 h2
  obtain ⟨c, hc⟩ : ∃ c, c = b := ⟨_, rfl⟩
  rw [← hc] at H2 ⊢
  clear hc b
  go_enter Try.func20, Try.ntmps20
  go_wp2_with fail
  refine (H1.out _).mono ?_; rintro e w' ⟨rfl, m, rfl⟩
  go_wp2_with fail
  refine (H2.out _).mono ?_; rintro e w' ⟨rfl, m2, rfl⟩
  go_wp2
  go_ret
  exact ⟨rfl, m + m2, by simp⟩
set_option maxHeartbeats 4000000 in
set_option maxRecDepth 100000 in
theorem eqComplex64S_t (v u : Value) (xs : List (Nat × Nat)) (w : World) (hs : Sl w 1 v xs.length (xs.map vc)) (ht : Sl w 1 u xs.length (xs.map vc)) (hx : ∀ x ∈ xs, NumC x) :
    Calls Try.prog 8 #[v, u] w fun r w' => r = .returned (.bool true) ∧ Below w.heap.size w w' := by
  obtain ⟨A, cap, rfl, hcap, hr⟩ := hs
  obtain ⟨A', cap', rfl, hcap', hr'⟩ := ht
  have hm := hr.2.1
  unfold maxLen at hm
  have HX := hd (fun k (hk : k < xs.length) => show NumC (xs.getD k (0, 0)) by
    rw [List.getD_eq_getElem?_getD, List.getElem?_eq_getElem hk]
    exact hx _ (List.getElem_mem hk))
  clear hx
  generalize hn : xs.length = n at *
  clear hn
  go_enter Try.func8, Try.ntmps8
  go_wp2
  go_loopw [5] (fun i wr => ∃ k : Nat, k ≤ n ∧ i = .int .i64 k ∧ Below w.heap.size w wr) (fun i _ => n - (intOf i).toNat)
  case atStart => exact ⟨0, by omega, rfl, Below.refl _ _⟩
  case round =>
    obtain ⟨k, hk, rfl, hB⟩ := hrel
    by_cases hlt : k < n
    · obtain ⟨b, off, rfl, hc⟩ := (hr.below hB).cpx hlt
      obtain ⟨b', off', rfl, hc'⟩ := (hr'.below hB).cpx hlt
      obtain ⟨q1, q2⟩ := HX.out k hlt
      obtain ⟨r1, c1, n1⟩ := wide_ok q1
      obtain ⟨r2, c2, n2⟩ := wide_ok q2
      have hcc : cConvBits .f32 (xs.getD k (0, 0)).1 (xs.getD k (0, 0)).2 .f64 = some (r1, r2) := by rw [cConvBits, c1, c2]; rfl
      have C := fun w => run_convert_complex (P := Try.prog) w 37 40 .f32 .f64 _ _ r1 r2 (by rw [Try.underlying37]; rfl) Try.underlying40 hcc
      have HSC := hd (fun w => sameComplex_num n1 n2 w)
      clear q1 q2 c1 c2 n1 n2 hcc
      generalize (xs.getD k (0, 0)).1 = x at *
      generalize (xs.getD k (0, 0)).2 = y at *
      have hb0 : Below wr.heap.size wr wr.drew := (Below.refl _ _).drew
      have i1 : (0 : Int) ≤ (k : Int) := by omega
      have i2 : (k : Int) < (n : Int) := by omega
      have HB := hd hB
      clear hr hr' hB HX
      go_wp2
      go_region_held3 (fun w' => w'.cell? ⟨b, off + k, none⟩ = some (.complex .f32 x y) ∧ w'.cell? ⟨b', off' + k, none⟩ = some (.complex .f32 x y) ∧ Below wr.heap.size wr w')
        (first | (refine ⟨?_, ?_, below_drewN (Below.refl _ _) _⟩ <;> go_keep) | go_keep)
        (first | (go_at_call 20; refine (HSC.out _).mono ?_; rintro e w' ⟨rfl, m3, rfl⟩))
      all_goals
        go_wp2
        go_roundw
        case rel => exact ⟨k + 1, by omega, by go_num, below_drewN HB.out _⟩
        case measure => simp [intOf]; omega
    · have hkn : k = n := by omega
      subst hkn
      go_wp2
      go_ret
      exact ⟨rfl, hB⟩
set_option maxHeartbeats 1000000 in
theorem markComplex64S_any (v : Value) (xs : List Value) (n base : Nat) (m : Int) (w : World) (ho : w.ownsRow base 37 1 v n xs) (hn : n ≤ 1048576) (hm0 : 0 ≤ m) (hm1 : m ≤ 1099511627776) :
    Calls Try.prog 11 #[v, .int .i64 m] w (MarkedRow 37 1 v n ((marksC n m).map vc) base (m + n) w) := by
  obtain ⟨A, cap, rfl, hcap, hr, hA⟩ := own_rd ho (size_le hn)
  have hl : xs.length = n := by have := ho.1; simpa using this
  have Hl := hd hl
  clear hl
  go_enter Try.func11, Try.ntmps11
  go_wp2
  go_loopw [1, 5] (fun q i wr => ∃ k : Nat, k ≤ n ∧ i = .int .i64 k ∧ q = .int .i64 (m + k) ∧ wr.ownsRow base 37 1 (.slice A n cap) n (((List.range k).map fun (i : Nat) => vc (mkC (m + (i : Int)))) ++ xs.drop k) ∧ w.grownBy wr (Value.ownBlock (.slice A n cap))) (fun _ i _ => n - (intOf i).toNat)
  case atStart => exact ⟨0, by omega, rfl, by simp, by simpa using ho, World.grownBy.refl _ _⟩
  case round =>
    obtain ⟨k, hk, rfl, rfl, ho1, hg⟩ := hrel
    clear ho hr
    by_cases hlt : k < n
    · rcases hA with ⟨_, hc0⟩ | ⟨g, rfl, hg1, hg2⟩
      · omega
      have hcell := ho1.cellAt k (by omega)
      have hfro := ho1.frozenAt k
      have hz : ∃ z, (((List.range k).map fun (i : Nat) => vc (mkC (m + (i : Int)))) ++ xs.drop k)[k]? = some z := by
        have := Hl.out
        refine ⟨_, List.getElem?_eq_getElem ?_⟩
        simp; omega
      obtain ⟨z, hz⟩ := hz
      rw [hz] at hcell
      clear hz
      have Hs := hd (ho1.stored k (vc (mkC (m + (k : Int)))))
      have Hst := hd (mark_step (fun (i : Nat) => vc (mkC (m + (i : Int)))) xs n k Hl.out hlt)
      have Hg := hd hg
      have C := fun w => run_convert_complex (P := Try.prog) w 40 37 .f64 .f32 _ _ (mkC (m + (k : Int))).1 (mkC (m + (k : Int))).2 (by rw [Try.underlying40]; rfl) Try.underlying37 (mkC_ok (k := m + (k : Int)) (by omega) (by omega)).1
      have ev : vc (mkC (m + (k : Int))) = .complex .f32 (mkC (m + (k : Int))).1 (mkC (m + (k : Int))).2 := rfl
      rw [ev] at Hs
      clear ho1 hg ev
      generalize hc1 : (mkC (m + (k : Int))).1 = c1 at *
      generalize hc2 : (mkC (m + (k : Int))).2 = c2 at *
      have ev : vc (mkC (m + (k : Int))) = .complex .f32 c1 c2 := by rw [← hc1, ← hc2]; rfl
      rw [ev] at Hst
      clear hc1 hc2 ev
      go_wp2
      go_roundw
      case rel =>
        have e := Hs.out.1
        rw [Hst.out] at e
        exact ⟨k + 1, by omega, by go_num, by go_num, e, Hg.out.trans Hs.out.2⟩
      case measure => simp [intOf]; omega
    · have hkn : k = n := by omega
      subst hkn
      go_wp2
      go_ret
      refine ⟨rfl, ?_, hg⟩
      have e := ho1
      rw [List.drop_eq_nil_of_le (by have := Hl.out; omega), List.append_nil] at e
      simpa [marksC, Function.comp_def] using e
set_option maxHeartbeats 1000000 in
theorem heldComplex64S_any (v : Value) (n : Nat) (m : Int) (w : World) (hs : Sl w 1 v n ((marksC n m).map vc)) (hn : n ≤ 1048576) (hm0 : 0 ≤ m) (hm1 : m ≤ 1099511627776) :
    Calls Try.prog 12 #[v, .int .i64 m] w (Draws (.int .i64 (m + n)) w) := by
  obtain ⟨A, cap, rfl, hcap, hr⟩ := hs
  go_enter Try.func12, Try.ntmps12
  go_wp2
  go_loopw [1, 5] (fun q i wr => ∃ k : Nat, k ≤ n ∧ i = .int .i64 k ∧ q = .int .i64 (m + k) ∧ ∃ j, wr = w.drewN j) (fun _ i _ => n - (intOf i).toNat)
  case atStart => exact ⟨0, by omega, rfl, by simp, 0, rfl⟩
  case round =>
    obtain ⟨k, hk, rfl, rfl, j, rfl⟩ := hrel
    by_cases hlt : k < n
    · obtain ⟨b, off, rfl, hc⟩ := hr.cpx hlt
      have e : (marksC n m).getD k (0, 0) = mkC (m + (k : Int)) := by rw [List.getD_eq_getElem?_getD, marksC_get n m k hlt]; rfl
      obtain ⟨g1, g2, g3⟩ := mkC_ok (k := m + (k : Int)) (by omega) (by omega)
      have C := fun w => run_convert_complex (P := Try.prog) w 40 37 .f64 .f32 _ _ (mkC (m + (k : Int))).1 (mkC (m + (k : Int))).2 (by rw [Try.underlying40]; rfl) Try.underlying37 g1
      have o1 := order_refl (nrm_some g2).2
      have o2 := order_refl (nrm_some g3).2
      rw [e] at hc
      clear e hr g1 g2 g3
      generalize (mkC (m + (k : Int))).1 = c1 at *
      generalize (mkC (m + (k : Int))).2 = c2 at *
      have i1 : (0 : Int) ≤ (k : Int) := by omega
      have i2 : (k : Int) < (n : Int) := by omega
      go_wp2
      go_roundw
      case rel => exact ⟨k + 1, by omega, by go_num, by go_num, _, rfl⟩
      case measure => simp [intOf]; omega
    · have hkn : k = n := by omega
      subst hkn
      go_wp2
      go_ret
      exact ⟨rfl, _, rfl⟩
theorem heldComplex64S_b (v : Value) (n : Nat) (m : Int) (w : World) (hs : Sl w 1 v n ((marksC n m).map vc)) (hn : n ≤ 1048576) (hm0 : 0 ≤ m) (hm1 : m ≤ 1099511627776) :
    Calls Try.prog 12 #[v, .int .i64 m] w fun r w' => r = .returned (.int .i64 (m + n)) ∧ Below w.heap.size w w' :=
  (heldComplex64S_any v n m w hs hn hm0 hm1).mono fun _ _ ⟨h, m, e⟩ => ⟨h, e ▸ below_drewN (Below.refl _ _) m⟩
end Go.Proofs.Ytdhmnajkmeclnaa
