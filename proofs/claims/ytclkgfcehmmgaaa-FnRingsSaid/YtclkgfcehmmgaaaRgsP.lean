/- Facts for the law of rings: what is drawn is valid, and what is found keeps what the law asks. -/
import Derived.Test.YtclkgfcehmmgaaaProg
import Derived.Test.YtclkgfcehmmgaaaArcsD
import Derived.Test.YtclkgfcehmmgaaaRingsT
import Derived.Test.YtclkgfcehmmgaaaSlowV
import Derived.Test.YtclkgfcehmmgaaaRunC
import Derived.Test.YtclkgfcehmmgaaaTimI
import Derived.Test.YtclkgfcehmmgaaaRgsI
namespace Go.Proofs.Ytclkgfcehmmgaaa
open Go.RowKit Plain
set_option linter.unusedVariables false
theorem drawn_ok {n : Nat} {l : List Q4} (n1 : 1 ≤ n) (n2 : n ≤ 5) (l1 : 1 ≤ l.length) (l2 : l.length ≤ 8) (h : ∀ q ∈ l, arcOk n q) : arcsB n l = true ∧ (∀ a ∈ l, arcB (n : Int) a = true) ∧ okR n l = true ∧ (∀ q ∈ l, q.I64) := by
  have ha : ∀ a ∈ l, arcB (n : Int) a = true := fun a hm => by
    have h1 := h a hm
    obtain ⟨x, y, c, d⟩ := a
    obtain ⟨⟨a0, a1⟩, ⟨b0, b1⟩, ⟨c0, c1⟩, ⟨d0, d1⟩, _⟩ := h1
    dsimp only at *
    exact arcB_iff.2 ⟨by omega, by omega, by omega, by omega⟩
  have hab : arcsB n l = true := by
    simp only [arcsB, Bool.and_eq_true, decide_eq_true_eq, List.all_eq_true]
    exact ⟨inR_iff.2 ⟨by omega, by omega⟩, by omega, by omega, ha⟩
  have hf := bare_fix n1 (by omega) ha (fun a hm hd => (h a hm).2.2.2.2 hd)
  refine ⟨hab, ha, by simp only [okR, Bool.and_eq_true, Int.toNat_natCast]; exact ⟨hab, hf⟩, fun q hm => ?_⟩
  obtain ⟨⟨a0, a1⟩, ⟨b0, b1⟩, ⟨c0, c1⟩, ⟨d0, d1⟩, _⟩ := h q hm
  exact ⟨⟨by omega, by omega⟩, ⟨by omega, by omega⟩, ⟨by omega, by omega⟩, ⟨by omega, by omega⟩⟩
/-- all that the law asks of the ring that is found -/
structure RingK (n : Nat) (l : List Q4) (lg q : Int) (p : List Nat) (qz : List Q4) : Prop where
  len : qz.length = p.length
  p1 : 1 ≤ p.length
  p2 : p.length ≤ 5
  at' : ∀ (k i : Nat), p[k]? = some i → l[i]? = qz[k]?
  mem : ∀ a ∈ qz, a ∈ l
  turn : ∀ (k i j : Nat) (a b : Q4), k < p.length → p[k]? = some i → p[(k + 1) % p.length]? = some j → l[i]? = some a → l[j]? = some b → a.b = b.a
  sums : sumQ Q4.c qz * q = lg * sumQ Q4.d qz
  marks : 1 ≤ sumQ Q4.d qz
theorem ring_known {n : Nat} {l : List Q4} (n1 : 1 ≤ n) (n2 : n ≤ 5) (ha : ∀ a ∈ l, arcB (n : Int) a = true) (hok : okR n l = true) (hk : (MPer n l).2.2 = true) :
    PerK n l (MPer n l).1 (MPer n l).2.1 ∧ ∃ p qz, MSl n l = (p.map (fun i : Nat => (i : Int)), true) ∧ RingK n l (MPer n l).1 (MPer n l).2.1 p qz := by
  have hfx := (MPer_parts hk).2
  rw [Int.toNat_natCast] at hfx
  refine ⟨per_known n1 (by omega) ha hok hfx, ?_⟩
  obtain ⟨n', s, p, e, _, _, s1, s2, hp, hl, hM⟩ := MSl_ring hk
  have e : n = n' := by omega
  subst e
  obtain ⟨_, qz, e, h1, h2, h3, h4⟩ := ring_sums ha hok s1 (by omega) hp
  obtain ⟨f1, f2, _, f4, _⟩ := path_facts p qz e e h1
  exact ⟨p, qz, hM, ⟨f1, by omega, by omega, f4, f2, fun k i j a b hk hi hj h5 h6 => path_turn h1 hk hi hj h5 h6, h3, h4⟩⟩
/-- the times: none is below 0 or great, they keep the arcs, and what happens comes no later -/
structure TimK (n : Nat) (l : List Q4) (lg q : Int) (T : List Int) (Rn : List Int) : Prop where
  len : T.length = n
  low : ∀ i, 0 ≤ T.getD i 0
  high : ∀ i, T.getD i 0 ≤ 100000000
  keep : ∀ a ∈ l, T.getD a.a.toNat 0 + (q * a.c - lg * a.d) ≤ T.getD a.b.toNat 0
  late : ∀ m i, i < n → q * Rn.getD (m * n + i) 0 ≤ T.getD i 0 + (m : Int) * lg
  rlow : ∀ v, 0 ≤ Rn.getD v 0
  rhigh : ∀ v, Rn.getD v 0 ≤ 30000000000000
theorem times_known {n : Nat} {l : List Q4} {lg q : Int} (n1 : 1 ≤ n) (n2 : n ≤ 5) (l2 : l.length ≤ 8) (ha : ∀ a ∈ l, arcB (n : Int) a = true) (hok : okR n l = true) (hp : PerK n l lg q) : TimK n l lg q (tmA (asQ lg q l) n (n - 1)) (outR l n 5 5) := by
  have hm : fixA (asQ 0 1 (bareOf l)) n = true := by
    simp only [okR, Bool.and_eq_true, Int.toNat_natCast] at hok
    exact hok.2
  have hb := outR_bd (R := 5) n1 (by omega) (by omega) ha hm 5
  obtain ⟨⟨l0, l1⟩, ⟨b0, b1⟩, hf, _⟩ := hp
  refine ⟨tmA_len _ _ _, fun i => tmA_nonneg _ _ _ _, fun i => ?_, times_keep ha hf, fun m i hi => run_late (T := fun v => (tmA (asQ lg q l) n (n - 1)).getD v 0) ha b0 l0 (fun i => tmA_nonneg _ _ _ _) (times_keep ha hf) 5 m i hi, fun v => (hb v).1, fun v => (hb v).2⟩
  have h := @tmB_bd (asQ lg q l) n 120000 (by omega) (fun a h => by
    obtain ⟨z, hz, rfl⟩ := List.mem_map.1 h
    obtain ⟨⟨c0, c1⟩, d0, d1⟩ := arcs_bd ha z hz
    have h1 : q * z.c ≤ 120 * 1000 := Int.mul_le_mul b1 c1 c0 (by omega)
    have h2 : 0 ≤ lg * z.d := Int.mul_nonneg l0 d0
    show q * z.c - lg * z.d ≤ 120000
    omega) (n - 1)
  rw [tmB_t] at h
  have hl : (asQ lg q l).length ≤ 8 := by rw [asQ, List.length_map]; exact l2
  have h3 := (h i).2
  have h4 : ((n - 1 : Nat) : Int) * (((asQ lg q l).length : Int) * 120000) ≤ 4 * (8 * 120000) := Int.mul_le_mul (by omega) (by omega) (by omega) (by omega)
  omega
theorem per_ok {n : Nat} {l : List Q4} {lg q : Int} (hab : arcsB n l = true) (h0 : 0 ≤ lg ∧ lg ≤ 1000000) (h1 : 1 ≤ q ∧ q ≤ 1000) : okP n l lg q = true := by
  rw [okP, hab, fracB, inR_iff.2 ⟨h0.1, h0.2⟩, inR_iff.2 ⟨h1.1, h1.2⟩]; rfl
theorem run_M {n : Nat} {l : List Q4} (n1 : 1 ≤ n) (hok : okR n l = true) : RunC.M n l 5 = (outR l n 5 5, true) := by
  simp only [okR, Bool.and_eq_true] at hok
  rw [RunC.M, RunC.okA, hok.1, hok.2]
  rfl
theorem tim_M {n : Nat} {l : List Q4} {lg q : Int} (hok : okR n l = true) (hp : PerK n l lg q) : TimI.M n l lg q = (tmA (asQ lg q l) n (n - 1), true) := by
  have hk := hok
  simp only [okR, Bool.and_eq_true] at hok
  rw [TimI.M, TimI.okT, per_ok hok.1 ⟨hp.l0.1, by have := hp.l0.2; omega⟩ ⟨hp.b0.1, by have := hp.b0.2; omega⟩, hok.2, Int.toNat_natCast, hp.fix]
  rfl
theorem isp_M {n : Nat} {l : List Q4} {lg q : Int} (hab : arcsB n l = true) (hp : PerK n l lg q) : MIsP n l lg q = (true, true) ∧ (0 < lg → MIsP n l (4 * lg - 1) (4 * q) = (false, true)) := by
  have := hp.l0
  have := hp.b0
  constructor
  · rw [MIsP_yes (per_ok hab ⟨by omega, by omega⟩ ⟨by omega, by omega⟩), Int.toNat_natCast, hp.fix]
  · intro h
    rw [MIsP_yes (per_ok hab ⟨by omega, by omega⟩ ⟨by omega, by omega⟩), Int.toNat_natCast, hp.less h]
end Go.Proofs.Ytclkgfcehmmgaaa
