/- SlowRing of the reference. -/
import Derived.Test.YtclkgfcehmmgaaaProg
import Derived.Test.YtclkgfcehmmgaaaSlowS
namespace Go.Proofs.Ytclkgfcehmmgaaa
open Go.RowKit Plain
set_option linter.unusedVariables false
set_option linter.unusedSimpArgs false
attribute [local go_sem ↓] Go.wp_at_zero Go.wp_at_succ

def TwoAt (w w' : World) (a b : Addr) (v u : Value) : Prop := (w'.cell? a = some v ∧ w'.cell? b = some u) ∧ Below w.heap.size w w'
theorem keep2_al {w w' : World} {a b : Addr} {v u : Value} {Z : Obj} (h : (w'.cell? a = some v ∧ w'.cell? b = some u) ∧ Below w.heap.size w w') : ((w'.alloc Z).cell? a = some v ∧ (w'.alloc Z).cell? b = some u) ∧ Below w.heap.size w (w'.alloc Z) :=
  have hb := (Below.refl w'.heap.size w').alloc (Nat.le_refl _) Z
  ⟨⟨below_at hb h.1.1, below_at hb h.1.2⟩, below_tr hb h.2⟩
theorem keep2_dr {w w' : World} {a b : Addr} {v u : Value} (h : (w'.cell? a = some v ∧ w'.cell? b = some u) ∧ Below w.heap.size w w') : (w'.drew.cell? a = some v ∧ w'.drew.cell? b = some u) ∧ Below w.heap.size w w'.drew :=
  have hb := drew_below (Below.refl w'.heap.size w')
  ⟨⟨below_at hb h.1.1, below_at hb h.1.2⟩, below_tr hb h.2⟩
theorem keep2_to {w w' w'' : World} {a b : Addr} {v u : Value} (hb : Below w'.heap.size w' w'') (h : (w'.cell? a = some v ∧ w'.cell? b = some u) ∧ Below w.heap.size w w') : (w''.cell? a = some v ∧ w''.cell? b = some u) ∧ Below w.heap.size w w'' := ⟨⟨below_at hb h.1.1, below_at hb h.1.2⟩, below_tr hb h.2⟩
theorem ring_all (l : List Q4) (v : Value) (n count : Nat) (lg q st : Int) (w0 : World) (hA : Sl w0 4 v n (q4s l)) (hsz : count ≤ 12) (hl : l.length = n) (n32 : n ≤ 32) (ha : ∀ a ∈ l, arcB (12 : Int) a = true) (l0 : 0 ≤ lg) (l1 : lg ≤ 12000) (q0 : 1 ≤ q) (q1 : q ≤ 120) (st0 : 0 ≤ st)
    (r : Nat) : RingC l v count lg q st w0 r := by
  induction r with
  | zero => exact ring_step l v n count lg q st w0 hA hsz hl n32 ha l0 l1 q0 q1 st0 0 (hd (fun r' h => by omega))
  | succ r ih => exact ring_step l v n count lg q st w0 hA hsz hl n32 ha l0 l1 q0 q1 st0 (r + 1) (hd (fun r' h => by
      obtain rfl : r' = r := by omega
      exact ih))
/-- a ring that begins with an arc -/
theorem ring_top (l : List Q4) (v : Value) (n count : Nat) (lg q : Int) (w0 : World) (hA : Sl w0 4 v n (q4s l)) (c1 : 1 ≤ count) (hsz : count ≤ 12) (hl : l.length = n) (n32 : n ≤ 32) (ha : ∀ a ∈ l, arcB (12 : Int) a = true) (l0 : 0 ≤ lg) (l1 : lg ≤ 12000) (q0 : 1 ≤ q) (q1 : q ≤ 120)
    (i x y : Nat) (c d : Int) (hi : l[i]? = some ⟨x, y, c, d⟩) (hxy : x ≤ y) (u : Value) (w : World) (hb : Below w0.heap.size w0 w) (hu : w.ownsRow w0.heap.size 2 1 u 1 [.int .i64 (i : Int)]) :
    Calls Try.prog 41 #[v, u, .int .i64 ((2 ^ x ||| 2 ^ y : Nat) : Int), .int .i64 count, .int .i64 lg, .int .i64 q] w fun e w' => Below w.heap.size w w' ∧
      ((topF l (fun a => q * a.c - lg * a.d) count i ⟨x, y, c, d⟩ = none ∧ ∃ x, e = .returned (.tuple #[x, .bool false])) ∨
       ∃ p x', topF l (fun a => q * a.c - lg * a.d) count i ⟨x, y, c, d⟩ = some p ∧ e = .returned (.tuple #[x', .bool true]) ∧ w'.ownsRow w0.heap.size 2 1 x' p.length (p.map fun i : Nat => vi (i : Int))) := by
  have hab := arcB_iff.1 (ha _ (List.mem_of_getElem? hi))
  have hR := ring_all l v n count lg q x w0 hA hsz hl n32 ha l0 l1 q0 q1 (by omega) (count - 1)
  have hS : 2 ^ x ||| 2 ^ y < 4096 := Nat.or_lt_two_pow (n := 12) (Nat.pow_lt_pow_right (by omega) (by omega)) (Nat.pow_lt_pow_right (by omega) (by omega))
  have h := hR (y : Int) (2 ^ x ||| 2 ^ y) [i] [⟨x, y, c, d⟩] u w (by simp; omega) (by simp) hS (hd hb) (hd ⟨hi, rfl, rfl⟩) (hd (show w.ownsRow _ _ 1 u 1 [.int .i64 (i : Int)] from hu))
  refine h.mono ?_
  intro e w' ⟨hb2, hp⟩
  refine ⟨hb2, ?_⟩
  rw [topF_res _ _ _ c1, if_neg (by show ¬ ((y : Int) < (x : Int)); omega)]
  simp only [sumQ, Int.add_zero, Int.toNat_natCast] at hp ⊢
  rcases hp with ⟨h1, h2⟩ | ⟨p, x', h1, h2, h3⟩
  · left
    rw [h1]
    exact ⟨rfl, h2⟩
  · right
    rw [h1]
    exact ⟨i :: p, x', rfl, h2, h3⟩
set_option maxHeartbeats 4000000 in
set_option maxRecDepth 100000 in
theorem specSlowRing_any (w : World) (ev : Int) (_i : I64 ev) (v : Value) (l : List Q4) (_j : ∀ y ∈ l, y.I64) (_b : l.length ≤ 1048576) (s : Sl w 4 v l.length (q4s l)) :
    Calls Try.prog 16 #[.int .i64 ev, v] w (OutL 2 1 (MSl ev l).1.length ((MSl ev l).1.map vi) (fun u => .tuple #[u, .bool (MSl ev l).2]) w) := by
  have P1 := specPeriodOf_any w ev _i v l _j _b s
  cases hk : (MPer ev l).2.2 with
  | false =>
    rw [MSl_no hk]
    rw [hk] at P1
    have P1 := hd P1
    clear hk
    go_enter Try.func16, Try.ntmps16
    go_wp2_with (go_at_call 8; refine P1.out.mono ?_; rintro e w1 ⟨rfl, hb1⟩)
    go_ret2
    exact ⟨_, rfl, World.ownsRow_nil _ _ _ _, hb1⟩
  | true =>
    obtain ⟨hok, hfx⟩ := MPer_parts hk
    have hab : arcsB ev l = true := by
      simp only [okR, Bool.and_eq_true] at hok
      exact hok.1
    obtain ⟨n, rfl, n1, n2, n3, n4⟩ := arcs_parts hab
    rw [Int.toNat_natCast] at hfx
    obtain ⟨⟨sz, z1, z2, z3⟩, _, ⟨l0, l1⟩, ⟨q0, q1⟩⟩ := slow_found n1 n2 n4 hok hfx
    rw [hk] at P1
    have P1 := hd P1
    have HY := hd (fun (s : Nat) (p : List Nat) (s1 : 1 ≤ s) (s2 : s ≤ n) hn hp => MSl_yes (n := n) (s := s) (l := l) (p := p) hk s1 s2 hn hp)
    have HZ3 := hd z3
    have har : ∀ a ∈ l, arcB (12 : Int) a = true := fun a ha => by
      have h := n4 a ha
      obtain ⟨a, b, c, d⟩ := a
      have h2 := arcB_iff.1 h
      exact arcB_iff.2 ⟨by omega, by omega, h2.2.2⟩
    have HAR := hd har
    have HS := hd s
    have RO := hd (fun (cnt : Nat) (c1 : 1 ≤ cnt) (c2 : cnt ≤ 12) => ring_top l v l.length cnt (MPer n l).1 (MPer n l).2.1 w s c1 c2 rfl n3 har l0 l1 q0 q1)
    have HZP := hd (show (fun a : Q4 => (MPer n l).2.1 * a.c - (MPer n l).1 * a.d) = zP n l from rfl)
    rw [HZP.out] at RO
    clear hk hok hfx hab z3 _j n4 har
    generalize (MPer (↑n) l).1 = lg at *
    generalize (MPer (↑n) l).2.1 = q at *
    obtain ⟨z, hz⟩ : ∃ z, z = zP n l := ⟨_, rfl⟩
    rw [← hz] at RO HY HZ3
    clear hz HZP
    obtain ⟨A, cap, rfl, hcap, hr⟩ := s
    have HA := hd hr
    obtain ⟨N, hN⟩ : ∃ N, N = l.length := ⟨_, rfl⟩
    have HN := hd hN
    rw [← hN] at n3 hcap
    rw [← hN] at P1 RO HS HA ⊢
    clear hr hN
    go_enter Try.func16, Try.ntmps16
    go_wp2_with (go_at_call 8; refine P1.out.mono ?_; rintro e w1 ⟨rfl, hb1⟩)
    go_loopw [9] (fun sv wr => ∃ sn : Nat, 1 ≤ sn ∧ sn ≤ sz ∧ sv = .int .i64 sn ∧ Hid (∀ j, 1 ≤ j → j < sn → ringF l z j = none) ∧ Hid (Below w.heap.size w wr)) (fun sv _ => sz + 1 - (intOf sv).toNat)
    case atStart => exact ⟨1, by omega, by omega, rfl, hd (fun j h1 h2 => by omega), hd hb1⟩
    case round =>
      obtain ⟨sn, a1, a2, rfl, hNo, hB⟩ := hrel
      clear hb1
      have hle : (sn : Int) ≤ (n : Int) := by omega
      go_wp2
      go_loopw [30] (fun kv wr2 => ∃ k : Nat, k ≤ N ∧ kv = .int .i64 k ∧ Hid (∀ j a, j < k → l[j]? = some a → topF l z sn j a = none) ∧ Hid (Below w.heap.size w wr2)) (fun kv _ => N - (intOf kv).toNat)
      case atStart => exact ⟨0, by omega, rfl, hd (fun j a hj => absurd hj (by omega)), hB⟩
      case round =>
        obtain ⟨k, hk, rfl, HF, HB⟩ := hrel
        by_cases hlt : k < N
        · obtain ⟨bb, off, ax, ay, ac, ad, e, hq, p0, p1, _, _⟩ := (HA.out.below HB.out).q4 hlt
          subst e
          obtain ⟨⟨x0, x1⟩, ⟨y0, y1⟩, _, _⟩ := arcB_iff.1 (HAR.out _ (List.mem_of_getElem? hq.out))
          obtain ⟨xn, rfl⟩ : ∃ xn : Nat, ax = xn := ⟨ax.toNat, by omega⟩
          obtain ⟨yn, rfl⟩ : ∃ yn : Nat, ay = yn := ⟨ay.toNat, by omega⟩
          have hx12 : xn < 12 := by omega
          have hy12 : yn < 12 := by omega
          have HSK := hd (fun (h : topF l z sn k ⟨xn, yn, ac, ad⟩ = none) => show ∀ j a, j < k + 1 → l[j]? = some a → topF l z sn j a = none from fun j a hj ha => by
            rcases Nat.lt_or_ge j k with h4 | h4
            · exact HF.out j a h4 ha
            · obtain rfl : j = k := by omega
              rw [hq.out] at ha
              cases ha
              exact h)
          have HFND := hd (fun (p : List Nat) (hx : topF l z sn k ⟨xn, yn, ac, ad⟩ = some p) => show MSl n l = _ from HY.out sn p a1 (by omega) hNo.out (show ringF l z sn = some p from firstF_at (m := k) (a := ⟨xn, yn, ac, ad⟩) (fun j a hj ha => by rw [Nat.zero_add]; exact HF.out j a hj ha) hq.out (by rw [Nat.zero_add]; exact hx)))
          have k2 : (k : Int) < (N : Int) := by omega
          by_cases hxy : (yn : Int) < (xn : Int)
          · have E := hd (HSK.out (by rw [topF, if_pos hxy]))
            clear HFND
            go_wp2
            go_quiet (fail)
            go_wp2
            go_roundw
            case rel => exact ⟨k + 1, by omega, by go_num, E, hd (below_drewN HB.out _)⟩
            case measure => simp [intOf]; omega
          · have hpx : (2 : Int) ^ xn ≤ 2048 ∧ (2 : Int) ^ yn ≤ 2048 := by
              have h1 : 2 ^ xn ≤ 2 ^ 11 := Nat.pow_le_pow_right (by omega) (by omega)
              have h2 : 2 ^ yn ≤ 2 ^ 11 := Nat.pow_le_pow_right (by omega) (by omega)
              have e1 : ((2 ^ xn : Nat) : Int) = (2 : Int) ^ xn := by push_cast; rfl
              have e2 : ((2 ^ yn : Nat) : Int) = (2 : Int) ^ yn := by push_cast; rfl
              omega
            have hsx : (0 : Int) < (2 : Int) ^ xn := Int.pow_pos (by decide)
            have hsy : (0 : Int) < (2 : Int) ^ yn := Int.pow_pos (by decide)
            have hor : bits .or .i64 (IntKind.i64.wrap (2 ^ xn)) (IntKind.i64.wrap (2 ^ yn)) = ((2 ^ xn ||| 2 ^ yn : Nat) : Int) := by
              have h := i64_or (2 ^ xn) (2 ^ yn) (Nat.pow_lt_pow_right (by omega) (by omega)) (Nat.pow_lt_pow_right (by omega) (by omega))
              push_cast at h
              rw [IntWalk.i64_in _ (by omega), IntWalk.i64_in _ (by omega)]
              exact h
            have R := hd (fun (u : Value) (wc : World) (hb : Below w.heap.size w wc) (hu : wc.ownsRow w.heap.size 2 1 u 1 [.int .i64 (k : Int)]) => RO.out sn a1 (by omega) k xn yn ac ad hq.out (by omega) u wc hb hu)
            go_wp2
            go_quiet (fail)
            go_upto_region 12 with fail
            have HBW := hd (below_drewN HB.out nq)
            have p0' := below_at (below_drewN (Below.refl wr.heap.size wr) nq) p0
            have p1' := below_at (below_drewN (Below.refl wr.heap.size wr) nq) p1
            obtain ⟨W, hW⟩ : ∃ W, W = wr.drewN nq := ⟨_, rfl⟩
            rw [← hW] at HBW p0' p1' ⊢
            clear hW p0 p1
            have LIT := hd (World.ownsRow_lit (base := w.heap.size) (e := 2) (size := 1) W #[.int .i64 (k : Int)] 1 HBW.out.size (by unfold maxLen; omega) rfl)
            have hst : (W.cell? ⟨bb, off + k * 4, none⟩ = some (.int .i64 xn) ∧ W.cell? ⟨bb, off + k * 4 + 1, none⟩ = some (.int .i64 yn)) ∧ Below w.heap.size w W := ⟨⟨p0', p1'⟩, HBW.out⟩
            clear p0' p1'
            cases hgr : topF l z sn k ⟨xn, yn, ac, ad⟩ with
            | none =>
              have E := hd (HSK.out hgr)
              have HC := hd (fun (uc : Value) (wc : World) (hb : Below w.heap.size w wc) (ho : wc.ownsRow w.heap.size 2 1 uc 1 [.int .i64 (k : Int)]) => ((R.out uc wc hb ho).mono (fun e w'' hp => by
                obtain ⟨hb2, ⟨_, x, rfl⟩ | ⟨p, x, hp, _⟩⟩ := hp
                · exact ⟨hb2, x, rfl⟩
                · rw [hgr] at hp; cases hp) : Calls Try.prog 41 _ wc (fun e w'' => Below wc.heap.size wc w'' ∧ ∃ x, e = .returned (.tuple #[x, .bool false]))))
              clear hgr R HFND HSK hpx hsx hsy
              go_region_held3 (fun w' => (w'.cell? ⟨bb, off + k * 4, none⟩ = some (.int .i64 xn) ∧ w'.cell? ⟨bb, off + k * 4 + 1, none⟩ = some (.int .i64 yn)) ∧ Below w.heap.size w w')
                (repeat (first | assumption | refine keep2_dr ?_ | refine keep2_al ?_))
                (first
                  | (go_at_call 41; refine (HC.out _ _ (‹_ ∧ Below w.heap.size w _›).2 (by first | exact LIT.out | exact own_below LIT.out (Below.refl _ _) | exact own_below LIT.out (drew_below (Below.refl _ _)))).mono ?_; rintro e w9 ⟨hb9, x9, rfl⟩; have hk9 := keep2_to hb9 ‹_ ∧ Below w.heap.size w _›))
              all_goals
                have HB9 := hd hk9.2
                clear hk9
                go_wp2
                go_roundw
                case rel => exact ⟨k + 1, by omega, by go_num, E, HB9⟩
                case measure => simp [intOf]; omega
            | some p =>
              have E := hd (HFND.out p hgr)
              have HC := hd (fun (uc : Value) (wc : World) (hb : Below w.heap.size w wc) (ho : wc.ownsRow w.heap.size 2 1 uc 1 [.int .i64 (k : Int)]) => ((R.out uc wc hb ho).mono (fun e w'' hp => by
                obtain ⟨hb2, ⟨hp, _⟩ | ⟨p', x, hp, he, ho'⟩⟩ := hp
                · rw [hgr] at hp; cases hp
                · rw [hgr] at hp; cases hp
                  exact ⟨hb2, x, he, ho'⟩) : Calls Try.prog 41 _ wc (fun e w'' => Below wc.heap.size wc w'' ∧ ∃ x, e = .returned (.tuple #[x, .bool true]) ∧ w''.ownsRow w.heap.size 2 1 x p.length (p.map fun i : Nat => vi (i : Int)))))
              clear hgr R HFND HSK hpx hsx hsy
              go_region_held3 (fun w' => (w'.cell? ⟨bb, off + k * 4, none⟩ = some (.int .i64 xn) ∧ w'.cell? ⟨bb, off + k * 4 + 1, none⟩ = some (.int .i64 yn)) ∧ Below w.heap.size w w')
                (repeat (first | assumption | refine keep2_dr ?_ | refine keep2_al ?_))
                (first
                  | (go_at_call 41; refine (HC.out _ _ (‹_ ∧ Below w.heap.size w _›).2 (by first | exact LIT.out | exact own_below LIT.out (Below.refl _ _) | exact own_below LIT.out (drew_below (Below.refl _ _)))).mono ?_; rintro e w9 ⟨hb9, x9, rfl, ho9⟩; have HO9 := hd ho9; clear ho9; have hk9 := keep2_to hb9 ‹_ ∧ Below w.heap.size w _›))
              all_goals
                have HB9 := hd hk9.2
                clear hk9
                go_wp2
                go_ret2
                rw [E.out]
                refine ⟨_, rfl, ?_, HB9.out⟩
                have h := HO9.out
                simpa [List.map_map, Function.comp_def] using h
        · obtain rfl : k = N := by omega
          have E := hd (show ringF l z sn = none from firstF_all (fun j a ha => by rw [Nat.zero_add]; exact HF.out j a (by have := (List.getElem?_eq_some_iff.1 ha).1; have := HN.out; omega) ha))
          have hlt2 : sn < sz := by
            rcases Nat.lt_or_ge sn sz with h | h
            · exact h
            · obtain rfl : sn = sz := by omega
              exact absurd E.out HZ3.out
          have HN2 := hd (show ∀ j, 1 ≤ j → j < sn + 1 → ringF l z j = none from fun j h1 h2 => by
            rcases Nat.lt_or_ge j sn with h | h
            · exact hNo.out j h1 h
            · obtain rfl : j = sn := by omega
              exact E.out)
          go_wp2
          go_roundw
          case rel => exact ⟨sn + 1, by omega, by omega, by go_num, HN2, HB⟩
          case measure => simp [intOf]; omega
end Go.Proofs.Ytclkgfcehmmgaaa
