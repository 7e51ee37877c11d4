/- PeriodOf on both sides: the greatest quotient of rings. -/
import Derived.Test.YtclkgfcehmmgaaaProg
import Derived.Test.YtclkgfcehmmgaaaArcs
import Derived.Test.YtclkgfcehmmgaaaMarked
import Derived.Test.YtclkgfcehmmgaaaSums
namespace Go.Proofs.Ytclkgfcehmmgaaa
open Go.RowKit Plain
set_option linter.unusedVariables false
set_option linter.unusedSimpArgs false
attribute [local go_sem ↓] Go.wp_at_zero Go.wp_at_succ

def okR (ev : Int) (l : List Q4) : Bool := arcsB ev l && fixA (asQ 0 1 (bareOf l)) ev.toNat
noncomputable def MPer (ev : Int) (l : List Q4) : Int × Int × Bool := if okR ev l && !fixA (asQ (-1) 1 l) ev.toNat then ((qOf l ev.toNat).1, (qOf l ev.toNat).2, true) else (0, 0, false)
theorem MPer_no {ev : Int} {l : List Q4} (h : okR ev l = false) : MPer ev l = (0, 0, false) := by rw [MPer, h]; rfl
theorem MPer_none {ev : Int} {l : List Q4} (h : fixA (asQ (-1) 1 l) ev.toNat = true) : MPer ev l = (0, 0, false) := by rw [MPer, h]; simp
theorem MPer_yes {ev : Int} {l : List Q4} (h : okR ev l = true) (h2 : fixA (asQ (-1) 1 l) ev.toNat = false) : MPer ev l = (((qOf l ev.toNat).1 : Int), ((qOf l ev.toNat).2 : Int), true) := by rw [MPer, h, h2]; rfl
theorem arcs_parts {ev : Int} {l : List Q4} (h : arcsB ev l = true) : ∃ n : Nat, ev = n ∧ 1 ≤ n ∧ n ≤ 12 ∧ l.length ≤ 32 ∧ (∀ a ∈ l, arcB (n : Int) a = true) := by
  simp only [arcsB, Bool.and_eq_true, decide_eq_true_eq, List.all_eq_true] at h
  obtain ⟨h1, h2, h3, h4⟩ := h
  have a1 := inR_iff.1 h1
  refine ⟨ev.toNat, by omega, by omega, by omega, by omega, ?_⟩
  rw [show ((ev.toNat : Nat) : Int) = ev by omega]
  exact h4
theorem arcs_in {n : Nat} {l : List Q4} (h : ∀ a ∈ l, arcB (n : Int) a = true) : ∀ a ∈ l, a.a.toNat < n ∧ a.b.toNat < n := by
  intro a ha
  have := h a ha
  obtain ⟨a, b, c, d⟩ := a
  obtain ⟨⟨a0, a1⟩, ⟨b0, b1⟩, _⟩ := arcB_iff.1 this
  exact ⟨by show a.toNat < n; omega, by show b.toNat < n; omega⟩
theorem arcs_bd {n : Nat} {l : List Q4} (h : ∀ a ∈ l, arcB (n : Int) a = true) : ∀ a ∈ l, (0 ≤ a.c ∧ a.c ≤ 1000) ∧ (0 ≤ a.d ∧ a.d ≤ 10) := by
  intro a ha
  have := h a ha
  obtain ⟨a, b, c, d⟩ := a
  exact (arcB_iff.1 this).2.2
theorem bare_asQ (l : List Q4) : asQ 0 1 (bareOf l) = (l.filter fun a => decide (a.d = 0)).map fun a => (a.a.toNat, a.b.toNat, (1 : Int)) := by
  rw [asQ, bareOf, List.map_map]
  have : (fun a : Q4 => a.d == 0) = fun a => decide (a.d = 0) := by funext a; simp [BEq.beq]
  rw [this]
  rfl
/-- where the search stands: at its begin, or at a ring's sums -/
def PerAt (l : List Q4) (n : Nat) (L B : Int) : Prop := (L = -1 ∧ B = 1) ∨ (0 ≤ L ∧ fixA (asQ (-1) 1 l) n = false ∧ ∃ rz, RingQ l rz ∧ L = sumQ Q4.c rz ∧ B = sumQ Q4.d rz)
/-- a ring that rises: the next place -/
theorem per_step {n : Nat} {l xz : List Q4} {L B : Int} (ha : ∀ a ∈ l, arcB (n : Int) a = true) (hm : fixA (asQ 0 1 (bareOf l)) n = true) (hB : 1 ≤ B) (hB2 : B ≤ 120) (hp : PerAt l n L B) (hf : fixA (asQ L B l) n = false) (hr : RingQ l xz) (h0 : 0 < B * sumQ Q4.c xz - L * sumQ Q4.d xz) :
    PerAt l n (sumQ Q4.c xz) (sumQ Q4.d xz) ∧ (0 ≤ sumQ Q4.c xz ∧ sumQ Q4.c xz ≤ 12000) ∧ (1 ≤ sumQ Q4.d xz ∧ sumQ Q4.d xz ≤ 120) ∧ (172800000 - 14400 * sumQ Q4.c xz / sumQ Q4.d xz).toNat < (172800000 - 14400 * L / B).toNat := by
  have b := ring_bd (arcs_bd ha) hr
  have m := ring_mark (arcs_in ha) (fun a h => (arcs_bd ha a h).2.1) hr (by rw [← bare_asQ]; exact hm)
  have u := quo_up hB hB2 m b.2.2 h0
  have t := quo_top b.1.2 m
  refine ⟨.inr ⟨b.1.1, ?_, xz, hr, rfl, rfl⟩, b.1, ⟨m, b.2.2⟩, by omega⟩
  rcases hp with ⟨rfl, rfl⟩ | ⟨_, h, _⟩
  · exact hf
  · exact h
/-- no ring rises: the quotient is the greatest -/
theorem per_end {n a b : Nat} {l : List Q4} (ha : ∀ a ∈ l, arcB (n : Int) a = true) (hm : okR n l = true) (hb : 1 ≤ b) (hp : PerAt l n (a : Int) b) (hf : fixA (asQ a b l) n = true) : MPer n l = (((a / Nat.gcd a b : Nat) : Int), ((b / Nat.gcd a b : Nat) : Int), true) := by
  rcases hp with ⟨h, _⟩ | ⟨_, h, rz, hr, e1, e2⟩
  · omega
  · rw [MPer_yes hm (by simpa using h), Int.toNat_natCast, qOf_eq (arcs_in ha) (L := a) (B := b) ⟨hb, hf, rz, hr, e1, e2⟩]
theorem drew_below {B : Nat} {w w' : World} (h : Below B w w') : Below B w w'.drew := below_drewN h 1

theorem eqlNilP_run (a : Option Addr) (n c : Nat) (w : World) : (binOp .eql 25 (.slice a n c) (.slice none 0 0)).run Try.prog w = .ok (.bool a.isNone) w := Lib.run_eql_slice_nil w _ _ _ _ _ _ _ Try.underlying25
set_option maxHeartbeats 2000000 in
set_option maxRecDepth 100000 in
theorem PeriodOf_any (w : World) (ev : Int) (_i : I64 ev) (v : Value) (l : List Q4) (_j : ∀ y ∈ l, y.I64) (_b : l.length ≤ 1048576) (s : Sl w 4 v l.length (q4s l)) :
    Calls Try.prog 9 #[.int .i64 ev, v] w fun e w' => e = .returned (.tuple #[.int .i64 (MPer ev l).1, .int .i64 (MPer ev l).2.1, .bool (MPer ev l).2.2]) ∧ Below w.heap.size w w' := by
  have A1 := hd (AreArcs_any ev v l w s)
  cases hab : arcsB ev l with
  | false =>
    have H := hd (MPer_no (show okR ev l = false by rw [okR, hab]; rfl))
    rw [H.out]
    rw [hab] at A1
    clear hab
    go_enter Try.func9, Try.ntmps9
    go_wp2_with (go_at_call 11; refine A1.out.mono ?_; rintro e w1 ⟨rfl, hb1⟩)
    refine bodyPost_ret (by simp [results, Try.results9, go_sem] <;> rfl) rfl ⟨rfl, hb1⟩
  | true =>
    rw [hab] at A1
    obtain ⟨n, rfl, n1, n2, n3, n4⟩ := arcs_parts hab
    have A2 := hd (fun w' (h : Below w.heap.size w w') => areMarked_any n v l w' n1 n2 (s.below h) n3 n4)
    cases hmk : fixA (asQ 0 1 (bareOf l)) n with
    | false =>
      have H := hd (MPer_no (show okR n l = false by rw [okR, hab, Int.toNat_natCast, hmk]; rfl))
      rw [H.out]
      rw [hmk] at A2
      clear hab hmk n4 _j
      go_enter Try.func9, Try.ntmps9
      go_wp2_with (first
        | (go_at_call 11; refine A1.out.mono ?_; rintro e w1 ⟨rfl, hb1⟩)
        | (go_at_call 31; refine (A2.out _ hb1).mono ?_; rintro e w2 ⟨rfl, hb2⟩))
      refine bodyPost_ret (by simp [results, Try.results9, go_sem] <;> rfl) rfl ⟨rfl, below_tr hb2 hb1⟩
    | true =>
      rw [hmk] at A2
      have HOK := hd (show okR n l = true by rw [okR, hab, Int.toNat_natCast, hmk]; rfl)
      have N4 := hd n4
      have ST := hd (fun xz L B hB hB2 hp hf hr h0 => per_step (xz := xz) (L := L) (B := B) n4 hmk hB hB2 hp hf hr h0)
      have EN := hd (fun a b hb hp hf => per_end (a := a) (b := b) n4 HOK.out hb hp hf)
      have NO := hd (show fixA (asQ (-1) 1 l) n = true → MPer n l = (0, 0, false) from fun h => MPer_none (by simpa using h))
      have RX := hd (fun L B w' (h : Below w.heap.size w w') (l0 : -1 ≤ L) (l1 : L ≤ 12000) (q0 : 1 ≤ B) (q1 : B ≤ 120) => relax_any n v l L B w' n1 n2 (s.below h) n3 n4 (by omega) (by omega) (by omega) (by omega))
      have TT := hd (fun u xz w' (hs : Sl w' 4 u xz.length (q4s xz)) (hr : RingQ l xz) => totals_any u xz w' hs hr.top (fun a h => arcs_bd n4 a (hr.mem a h)))
      have EQ := eqlNilP_run
      clear hab hmk n4 _j s
      go_enter Try.func9, Try.ntmps9
      go_wp2_with (first
        | (go_at_call 11; refine A1.out.mono ?_; rintro e w1 ⟨rfl, hb1⟩)
        | (go_at_call 31; refine (A2.out _ hb1).mono ?_; rintro e w2 ⟨rfl, hb2⟩))
      have hb3 := below_tr hb2 hb1
      clear hb1 hb2
      go_loopw [7, 8] (fun lo by' wr => ∃ L B : Int, lo = .int .i64 L ∧ by' = .int .i64 B ∧ -1 ≤ L ∧ L ≤ 12000 ∧ 1 ≤ B ∧ B ≤ 120 ∧ Hid (PerAt l n L B) ∧ Below w.heap.size w wr) (fun lo by' _ => (172800000 - 14400 * intOf lo / intOf by').toNat)
      case atStart => exact ⟨-1, 1, rfl, rfl, by omega, by omega, by omega, by omega, hd (.inl ⟨rfl, rfl⟩), hb3⟩
      case round =>
        clear hb3
        obtain ⟨L, B, rfl, rfl, L0, L1, B0, B1, hp, hb⟩ := hrel
        have HB := hd hb
        cases hf : fixA (asQ L B l) n with
        | false =>
          have HF := hd hf
          clear hb
          go_wp2_with (first
            | (go_at_call 32; refine (RX.out L B _ HB.out L0 L1 B0 B1).mono ?_; rintro e w2 ⟨hb2, ⟨h, _⟩ | ⟨_, u, g, m, c, rfl, xz, hr, h0, rfl, ho⟩⟩; (rw [HF.out] at h; cases h); have SS := hd (ST.out xz L B B0 B1 hp.out HF.out hr (by omega)); have HR := hd (And.intro hr ho); have HB2 := hd (below_tr hb2 HB.out); clear hf hb2 hr h0 ho)
            | (go_at_call 33; refine (TT.out _ xz _ (own_sl HR.out.2 (by have := HR.out.1.top; unfold maxLen; omega)) HR.out.1).mono ?_; rintro e w3 ⟨rfl, hb3⟩))
          go_roundw
          case rel => exact ⟨_, _, rfl, rfl, by have := SS.out.2.1; omega, SS.out.2.1.2, SS.out.2.2.1.1, SS.out.2.2.1.2, hd SS.out.1, below_tr hb3 HB2.out⟩
          case measure => exact SS.out.2.2.2
        | true =>
          have HF := hd hf
          clear hb
          by_cases hL : L = -1
          · have HP := hd (show MPer n l = (0, 0, false) from NO.out (by
              rcases hp.out with ⟨_, h⟩ | ⟨h, _⟩
              · rw [← hL, ← h]; exact HF.out
              · omega))
            subst hL
            clear hf hp
            go_wp2_with (first
              | (go_at_call 32; refine (RX.out (-1) B _ HB.out L0 L1 B0 B1).mono ?_; rintro e w2 ⟨hb2, ⟨_, u, rfl, _⟩ | ⟨h, _⟩⟩; rotate_left; (rw [HF.out] at h; cases h)))
            refine bodyPost_ret (by simp [results, Try.results9, go_sem] <;> rfl) rfl ⟨by rw [HP.out], below_tr hb2 HB.out⟩
          · obtain ⟨a, rfl⟩ : ∃ a : Nat, L = a := ⟨L.toNat, by omega⟩
            obtain ⟨b, rfl⟩ : ∃ b : Nat, B = b := ⟨B.toNat, by omega⟩
            have HP := hd (EN.out a b (by omega) hp.out HF.out)
            have HC := hd (fun w' => common_any a b w' (by omega) (by omega))
            have g1 := Nat.gcd_pos_of_pos_right a (show 0 < b by omega)
            have q1 := Nat.div_le_self a (Nat.gcd a b)
            have q2 := Nat.div_le_self b (Nat.gcd a b)
            have e1 : (a : Int).tdiv (Nat.gcd a b : Nat) = ((a / Nat.gcd a b : Nat) : Int) := rfl
            have e2 : (b : Int).tdiv (Nat.gcd a b : Nat) = ((b / Nat.gcd a b : Nat) : Int) := rfl
            generalize Nat.gcd a b = g at *
            generalize a / g = x at *
            generalize b / g = y at *
            have g2 : ¬ (g : Int) = 0 := by omega
            have a0 : ¬ (a : Int) < 0 := by omega
            have wx : IntKind.i64.wrap (x : Int) = x := IntWalk.i64_in _ (by omega)
            have wy : IntKind.i64.wrap (y : Int) = y := IntWalk.i64_in _ (by omega)
            clear hf hL hp
            go_wp2_with (first
              | (go_at_call 32; refine (RX.out a b _ HB.out L0 L1 B0 B1).mono ?_; rintro e w2 ⟨hb2, ⟨_, u, rfl, _⟩ | ⟨h, _⟩⟩; rotate_left; (rw [HF.out] at h; cases h))
              | (go_at_call 34; refine (HC.out _).mono ?_; rintro e w3 ⟨rfl, hb3⟩))
            go_quiet (fail)
            go_wp2
            refine bodyPost_ret (by simp [results, Try.results9, go_sem] <;> rfl) rfl ⟨by rw [HP.out], below_drewN (below_tr hb3 (below_tr hb2 HB.out)) _⟩
set_option maxHeartbeats 2000000 in
set_option maxRecDepth 100000 in
theorem l05Period_any (w : World) (n : Nat) (v : Value) (l : List Q4) (s : Sl w 4 v l.length (q4s l)) (n1 : 1 ≤ n) (n2 : n ≤ 12) (n3 : l.length ≤ 32) (n4 : ∀ a ∈ l, arcB (n : Int) a = true) (hok : okR n l = true) :
    Calls Try.prog 30 #[.int .i64 n, v] w fun e w' => e = .returned (.tuple #[.int .i64 (MPer n l).1, .int .i64 (MPer n l).2.1, .bool (MPer n l).2.2]) ∧ Below w.heap.size w w' := by
  have hmk : fixA (asQ 0 1 (bareOf l)) n = true := by
    simp only [okR, Bool.and_eq_true, Int.toNat_natCast] at hok
    exact hok.2
  have N4 := hd n4
  have S0 := hd s
  have ST := hd (fun xz L B hB hB2 hp hf hr h0 => per_step (xz := xz) (L := L) (B := B) n4 hmk hB hB2 hp hf hr h0)
  have EN := hd (fun a b hb hp hf => per_end (a := a) (b := b) n4 hok hb hp hf)
  have NO := hd (show fixA (asQ (-1) 1 l) n = true → MPer n l = (0, 0, false) from fun h => MPer_none (by simpa using h))
  have RX := hd (fun L B w' (h : Below w.heap.size w w') (l0 : -1 ≤ L) (l1 : L ≤ 12000) (q0 : 1 ≤ B) (q1 : B ≤ 120) => rises_any n v l L B w' n1 n2 (s.below h) n3 n4 (by omega) (by omega) (by omega) (by omega))
  have TT := hd (fun u xz is w' (hs : Sl w' 4 v l.length (q4s l)) (hu : Sl w' 1 u is.length (is.map fun i : Nat => vi (i : Int))) (hr : RingQ l xz) hx hi => l05Sums_any v u l xz is w' hs hu hr.top (fun a h => arcs_bd n4 a (hr.mem a h)) hx hi n3)
  clear hmk n4 s hok
  go_enter Try.func30, Try.ntmps30
  go_wp2
  go_loopw [7, 8, 9] (fun lo by' fd wr => ∃ (L B : Int) (f : Bool), lo = .int .i64 L ∧ by' = .int .i64 B ∧ fd = .bool f ∧ Hid (f = true ↔ ¬ L = -1) ∧ -1 ≤ L ∧ L ≤ 12000 ∧ 1 ≤ B ∧ B ≤ 120 ∧ Hid (PerAt l n L B) ∧ Below w.heap.size w wr) (fun lo by' _ _ => (172800000 - 14400 * intOf lo / intOf by').toNat)
  case atStart => exact ⟨-1, 1, false, rfl, rfl, rfl, hd (by simp), by omega, by omega, by omega, by omega, hd (.inl ⟨rfl, rfl⟩), Below.refl _ _⟩
  case round =>
    obtain ⟨L, B, f, rfl, rfl, rfl, hfd, L0, L1, B0, B1, hp, hb⟩ := hrel
    have HB := hd hb
    cases hf : fixA (asQ L B l) n with
    | false =>
      have HF := hd hf
      clear hb
      go_wp2_with (first
        | (go_at_call 47; refine (RX.out L B _ HB.out L0 L1 B0 B1).mono ?_; rintro e w2 ⟨hb2, ⟨h, _⟩ | ⟨_, u, rfl, is, xz, hr, h0, hx, hi, ho⟩⟩; (rw [HF.out] at h; cases h); have SS := hd (ST.out xz L B B0 B1 hp.out HF.out hr (by omega)); have HX := hd hx; have HI := hd hi; have HR := hd (And.intro hr ho); have HB2 := hd (below_tr hb2 HB.out); clear hf hb2 hr h0 ho hx hi)
        | (go_at_call 48; refine (TT.out _ xz is _ (S0.out.below HB2.out) (own_sl HR.out.2 (by have := HR.out.1.top; have e := congrArg List.length HX.out; simp at e; unfold maxLen; omega)) HR.out.1 HX.out HI.out).mono ?_; rintro e w3 ⟨rfl, hb3⟩))
      go_roundw
      case rel => exact ⟨_, _, true, rfl, rfl, rfl, hd (by have := SS.out.2.1.1; simp; omega), by have := SS.out.2.1; omega, SS.out.2.1.2, SS.out.2.2.1.1, SS.out.2.2.1.2, hd SS.out.1, below_tr hb3 HB2.out⟩
      case measure => exact SS.out.2.2.2
    | true =>
      have HF := hd hf
      clear hb
      by_cases hL : L = -1
      · have HP := hd (show MPer n l = (0, 0, false) from NO.out (by
          rcases hp.out with ⟨_, h⟩ | ⟨h, _⟩
          · rw [← hL, ← h]; exact HF.out
          · omega))
        have f0 : f = false := by
          cases f with
          | false => rfl
          | true => exact absurd hL (hfd.out.1 rfl)
        subst hL f0
        clear hf hp hfd
        go_wp2_with (first
          | (go_at_call 47; refine (RX.out (-1) B _ HB.out L0 L1 B0 B1).mono ?_; rintro e w2 ⟨hb2, ⟨_, u, rfl, _⟩ | ⟨h, _⟩⟩; rotate_left; (rw [HF.out] at h; cases h)))
        refine bodyPost_ret (by simp [results, Try.results30, go_sem] <;> rfl) rfl ⟨by rw [HP.out], below_tr hb2 HB.out⟩
      · have f0 : f = true := hfd.out.2 hL
        subst f0
        obtain ⟨a, rfl⟩ : ∃ a : Nat, L = a := ⟨L.toNat, by omega⟩
        obtain ⟨b, rfl⟩ : ∃ b : Nat, B = b := ⟨B.toNat, by omega⟩
        have HP := hd (EN.out a b (by omega) hp.out HF.out)
        have HC := hd (fun w' => l05Common_any a b w' (by omega) (by omega))
        have g1 := Nat.gcd_pos_of_pos_right a (show 0 < b by omega)
        have q1 := Nat.div_le_self a (Nat.gcd a b)
        have q2 := Nat.div_le_self b (Nat.gcd a b)
        have e1 : (a : Int).tdiv (Nat.gcd a b : Nat) = ((a / Nat.gcd a b : Nat) : Int) := rfl
        have e2 : (b : Int).tdiv (Nat.gcd a b : Nat) = ((b / Nat.gcd a b : Nat) : Int) := rfl
        generalize Nat.gcd a b = g at *
        generalize a / g = x at *
        generalize b / g = y at *
        have g2 : ¬ (g : Int) = 0 := by omega
        have wx : IntKind.i64.wrap (x : Int) = x := IntWalk.i64_in _ (by omega)
        have wy : IntKind.i64.wrap (y : Int) = y := IntWalk.i64_in _ (by omega)
        clear hf hL hp hfd
        go_wp2_with (first
          | (go_at_call 47; refine (RX.out a b _ HB.out L0 L1 B0 B1).mono ?_; rintro e w2 ⟨hb2, ⟨_, u, rfl, _⟩ | ⟨h, _⟩⟩; rotate_left; (rw [HF.out] at h; cases h))
          | (go_at_call 49; refine (HC.out _).mono ?_; rintro e w3 ⟨rfl, hb3⟩))
        go_quiet (fail)
        go_wp2
        refine bodyPost_ret (by simp [results, Try.results30, go_sem] <;> rfl) rfl ⟨by rw [HP.out], below_drewN (below_tr hb3 (below_tr hb2 HB.out)) _⟩

set_option maxHeartbeats 2000000 in
set_option maxRecDepth 100000 in
theorem specPeriodOf_any (w : World) (ev : Int) (_i : I64 ev) (v : Value) (l : List Q4) (_j : ∀ y ∈ l, y.I64) (_b : l.length ≤ 1048576) (s : Sl w 4 v l.length (q4s l)) :
    Calls Try.prog 8 #[.int .i64 ev, v] w fun e w' => e = .returned (.tuple #[.int .i64 (MPer ev l).1, .int .i64 (MPer ev l).2.1, .bool (MPer ev l).2.2]) ∧ Below w.heap.size w w' := by
  have A1 := hd (l05Arcs_any ev v l w s)
  cases hab : arcsB ev l with
  | false =>
    have H := hd (MPer_no (show okR ev l = false by rw [okR, hab]; rfl))
    rw [H.out]
    rw [hab] at A1
    clear hab
    go_enter Try.func8, Try.ntmps8
    go_wp2_with (go_at_call 28; refine A1.out.mono ?_; rintro e w1 ⟨rfl, hb1⟩)
    refine bodyPost_ret (by simp [results, Try.results8, go_sem] <;> rfl) rfl ⟨rfl, hb1⟩
  | true =>
    rw [hab] at A1
    obtain ⟨n, rfl, n1, n2, n3, n4⟩ := arcs_parts hab
    have A2 := hd (fun w' (h : Below w.heap.size w w') => l05Marked_any n v l w' n1 n2 (s.below h) n3 n4)
    cases hmk : fixA (asQ 0 1 (bareOf l)) n with
    | false =>
      have H := hd (MPer_no (show okR n l = false by rw [okR, hab, Int.toNat_natCast, hmk]; rfl))
      rw [H.out]
      rw [hmk] at A2
      clear hab hmk n4 _j
      go_enter Try.func8, Try.ntmps8
      go_wp2_with (first
        | (go_at_call 28; refine A1.out.mono ?_; rintro e w1 ⟨rfl, hb1⟩)
        | (go_at_call 29; refine (A2.out _ hb1).mono ?_; rintro e w2 ⟨rfl, hb2⟩))
      refine bodyPost_ret (by simp [results, Try.results8, go_sem] <;> rfl) rfl ⟨rfl, below_tr hb2 hb1⟩
    | true =>
      rw [hmk] at A2
      have HPP := hd (fun w' (h : Below w.heap.size w w') => l05Period_any w' n v l (s.below h) n1 n2 n3 n4 (show okR n l = true by rw [okR, hab, Int.toNat_natCast, hmk]; rfl))
      generalize MPer n l = m at *
      obtain ⟨m1, m2, m3⟩ := m
      clear hab hmk n4 _j
      go_enter Try.func8, Try.ntmps8
      go_wp2_with (first
        | (go_at_call 28; refine A1.out.mono ?_; rintro e w1 ⟨rfl, hb1⟩)
        | (go_at_call 29; refine (A2.out _ hb1).mono ?_; rintro e w2 ⟨rfl, hb2⟩)
        | (go_at_call 30; refine (HPP.out _ (below_tr hb2 hb1)).mono ?_; rintro e w3 ⟨rfl, hb3⟩))
      refine bodyPost_ret (by simp [results, Try.results8, go_sem] <;> rfl) rfl ⟨rfl, below_tr hb3 (below_tr hb2 hb1)⟩
end Go.Proofs.Ytclkgfcehmmgaaa
