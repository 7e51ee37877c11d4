/- Chapter 5: the wait of a rule. -/
import Derived.Test.YtldehffhpblliaaRules
namespace Go.Proofs.Ytldehffhpblliaa
open Go.RowKit Plain
set_option linter.unusedVariables false
set_option linter.unusedSimpArgs false
attribute [local go_sem ↓] Go.wp_at_zero Go.wp_at_succ

/-- the wait of a rule from time s to time t -/
def waitOf (s t c p : Int) : Int := c + (t - s - c) % p
theorem wait_bd {s t c p : Int} (hp : 0 < p) (hp2 : p ≤ 60) (hc : 0 ≤ c) (hc2 : c ≤ 60) : 0 ≤ (t - s - c) % p ∧ (t - s - c) % p ≤ 60 := by
  have := Int.emod_nonneg (t - s - c) (show p ≠ 0 by omega)
  have := Int.emod_lt_of_pos (t - s - c) hp
  omega

set_option maxHeartbeats 1000000 in
theorem wait_any (na nb : Nat) (c d p s t : Int) (v : Value) (ts : List Int) (w : World) (hs : Sl w 1 v ts.length (ts.map vi)) (ha : na < ts.length) (hb : nb < ts.length)
    (es : ts.getD na 0 = s) (et : ts.getD nb 0 = t) (hc0 : 0 ≤ c) (hc1 : c ≤ 60) (hp0 : 0 < p) (hp1 : p ≤ 60) (s0 : 0 ≤ s) (s1 : s ≤ 60) (t0 : 0 ≤ t) (t1 : t ≤ 60) :
    Calls Try.prog 70 #[.agg #[.int .i64 na, .int .i64 nb, .int .i64 c, .int .i64 d], v, .int .i64 p] w fun r w' => r = .returned (.int .i64 (waitOf s t c p)) ∧ Below w.heap.size w w' := by
  obtain ⟨A, cap, rfl, hcap, hr⟩ := hs
  have hm := hr.2.1
  unfold maxLen at hm
  obtain ⟨b, off, rfl, ca⟩ := hr.int ha
  obtain ⟨b', off', hA, cb⟩ := hr.int hb
  cases hA
  rw [es] at ca
  rw [et] at cb
  have hlt := block_lt_of_cell ca
  obtain ⟨m0, m1⟩ := wait_bd (s := s) (t := t) hp0 hp1 hc0 hc1
  have hI : I64 (t - s - c) := ⟨by omega, by omega⟩
  generalize ts.length = n at *
  clear hr es et
  have i1 : (0 : Int) ≤ (na : Int) := by omega
  have i2 : (na : Int) < (n : Int) := by omega
  have i3 : (0 : Int) ≤ (nb : Int) := by omega
  have i4 : (nb : Int) < (n : Int) := by omega
  rw [waitOf]
  go_enter Try.func70, Try.ntmps70
  go_wp2
  have w1 : IntKind.i64.wrap (t - s) = t - s := IntWalk.i64_in _ (by omega)
  have w2 : IntKind.i64.wrap (t - s - c) = t - s - c := IntWalk.i64_in _ (by omega)
  have w3 : IntKind.i64.wrap (c + (t - s - c) % p) = c + (t - s - c) % p := IntWalk.i64_in _ (by omega)
  go_quiet ((go_at_call 71; exact Calls.quiet_of_same ((floorMod_any _ _ _ (by omega) (by omega) hI).mono fun _ _ h => ⟨h.1, h.2.symm⟩)))
  clear w1 w2 w3
  go_wp2
  go_ret
  exact ⟨rfl, below_drewN (by go_grown) _⟩

set_option maxHeartbeats 1000000 in
theorem l05Wait_any (na nb : Nat) (c p s t : Int) (g o : Nat) (v : Value) (ts : List Int) (w : World) (hs : Sl w 1 v ts.length (ts.map vi)) (ha : na < ts.length) (hb : nb < ts.length)
    (q0 : w.cell? ⟨g, o, none⟩ = some (.int .i64 na)) (q1 : w.cell? ⟨g, o + 1, none⟩ = some (.int .i64 nb)) (q2 : w.cell? ⟨g, o + 2, none⟩ = some (.int .i64 c))
    (es : ts.getD na 0 = s) (et : ts.getD nb 0 = t) (hc0 : 0 ≤ c) (hc1 : c ≤ 60) (hp0 : 0 < p) (hp1 : p ≤ 60) (s0 : 0 ≤ s) (s1 : s ≤ 60) (t0 : 0 ≤ t) (t1 : t ≤ 60) :
    Calls Try.prog 64 #[.pointer (some ⟨g, o, none⟩), .int .i64 p, v] w (Draws (.int .i64 (waitOf s t c p)) w) := by
  obtain ⟨A, cap, rfl, hcap, hr⟩ := hs
  have hm := hr.2.1
  unfold maxLen at hm
  obtain ⟨b, off, rfl, ca⟩ := hr.int ha
  obtain ⟨b', off', hA, cb⟩ := hr.int hb
  cases hA
  rw [es] at ca
  rw [et] at cb
  obtain ⟨m0, m1⟩ := wait_bd (s := s) (t := t) hp0 hp1 hc0 hc1
  have Hf := hd (tmod_floor (t - s - c) p hp0)
  generalize ts.length = n at *
  clear hr es et
  have i1 : (0 : Int) ≤ (na : Int) := by omega
  have i2 : (na : Int) < (n : Int) := by omega
  have i3 : (0 : Int) ≤ (nb : Int) := by omega
  have i4 : (nb : Int) < (n : Int) := by omega
  rw [waitOf]
  go_enter Try.func64, Try.ntmps64
  go_wp2
  have w1 : IntKind.i64.wrap (t - s) = t - s := IntWalk.i64_in _ (by omega)
  have w2 : IntKind.i64.wrap (t - s - c) = t - s - c := IntWalk.i64_in _ (by omega)
  go_quiet (fail)
  clear w1 w2
  have r0 : ¬ p = 0 := by omega
  have r1 := Int.tmod_lt_of_pos (t - s - c) hp0
  have r2 : -p < (t - s - c).tmod p := by have := Int.lt_tmod_of_pos (t - s - c) hp0; omega
  have Hf2 : (( t - s - c).tmod p + p).tmod p = (t - s - c) % p := by rw [Int.tmod_eq_emod_of_nonneg (by omega)]; exact Hf.out
  clear Hf
  generalize t - s - c = x at *
  have Hf3 := hd Hf2
  obtain ⟨y, hy⟩ : ∃ y, (x.tmod p + p).tmod p = y := ⟨_, rfl⟩
  have hyb : 0 ≤ y ∧ y ≤ 60 := by rw [← hy, Hf2]; exact ⟨m0, m1⟩
  obtain ⟨y0, y1⟩ := hyb
  have Hy := hd hy
  clear Hf2
  have w3 : IntKind.i64.wrap (x.tmod p + p) = x.tmod p + p := IntWalk.i64_in _ (by omega)
  have w4 : IntKind.i64.wrap (c + y) = c + y := IntWalk.i64_in _ (by omega)
  have w5 : IntKind.i64.wrap (x.tmod p) = x.tmod p := IntWalk.i64_in _ (by omega)
  have w6 : IntKind.i64.wrap y = y := IntWalk.i64_in _ (by omega)
  go_wp2
  go_quiet (fail)
  clear w3 w4 w5 w6
  go_wp2
  go_ret
  refine ⟨ret_i64 ?_, by first | exact ⟨_, rfl⟩ | exact drew2 _ _ _⟩
  rw [← Hf3.out, Hy.out]

/-- the wait of a rule of a list -/
def waitQ (ts : List Int) (p : Int) (q : Q4) : Int := waitOf (ts.getD q.a.toNat 0) (ts.getD q.b.toNat 0) q.c p
/-- all rules are kept -/
def keepsB (l : List Q4) (p : Int) (ts : List Int) : Bool := l.all fun q => decide (waitQ ts p q ≤ q.d)
/-- the sum of the first k waits -/
def sumW (l : List Q4) (p : Int) (ts : List Int) : Nat → Int
  | 0 => 0
  | k + 1 => sumW l p ts k + match l[k]? with | some q => waitQ ts p q | none => 0
theorem sumW_succ {l : List Q4} {p : Int} {ts : List Int} {k : Nat} {q : Q4} (h : l[k]? = some q) : sumW l p ts (k + 1) = sumW l p ts k + waitQ ts p q := by rw [sumW, h]
/-- rules of valid events, and times of a valid period -/
structure TabOk (l : List Q4) (p : Int) (ts : List Int) : Prop where
  r : ∀ (k : Nat) (q : Q4), l[k]? = some q → ruleB ts.length p q = true
  t : ∀ i, i < ts.length → 0 ≤ ts.getD i 0 ∧ ts.getD i 0 ≤ p - 1
  p0 : 1 ≤ p
  p1 : p ≤ 60
  n : l.length ≤ 32
theorem TabOk.at {l : List Q4} {p : Int} {ts : List Int} (h : TabOk l p ts) {k : Nat} {a b c d : Int} (hq : l[k]? = some ⟨a, b, c, d⟩) :
    ∃ na nb : Nat, a = na ∧ b = nb ∧ na < ts.length ∧ nb < ts.length ∧ 0 ≤ c ∧ c ≤ 60 ∧ (0 ≤ ts.getD na 0 ∧ ts.getD na 0 ≤ 60) ∧ (0 ≤ ts.getD nb 0 ∧ ts.getD nb 0 ≤ 60) ∧ waitQ ts p ⟨a, b, c, d⟩ = waitOf (ts.getD na 0) (ts.getD nb 0) c p ∧ 0 ≤ waitQ ts p ⟨a, b, c, d⟩ ∧ waitQ ts p ⟨a, b, c, d⟩ ≤ 120 := by
  have hr := h.r k _ hq
  simp only [ruleB, Bool.and_eq_true, inR_iff] at hr
  obtain ⟨h1, h2, _, h4, _⟩ := hr
  have p0 := h.p0
  have p1 := h.p1
  obtain ⟨na, rfl⟩ := Int.eq_ofNat_of_zero_le h1.1
  obtain ⟨nb, rfl⟩ := Int.eq_ofNat_of_zero_le h2.1
  have la : na < ts.length := by omega
  have lb : nb < ts.length := by omega
  have ta := h.t na la
  have tb := h.t nb lb
  have wb := wait_bd (s := ts.getD na 0) (t := ts.getD nb 0) (c := c) (p := p) (by omega) p1 (by omega) (by omega)
  refine ⟨na, nb, rfl, rfl, la, lb, by omega, by omega, by omega, by omega, rfl, ?_, ?_⟩
  · simp only [waitQ, waitOf, Int.toNat_natCast]; omega
  · simp only [waitQ, waitOf, Int.toNat_natCast]; omega
theorem sumW_bd {l : List Q4} {p : Int} {ts : List Int} (h : TabOk l p ts) (k : Nat) : 0 ≤ sumW l p ts k ∧ sumW l p ts k ≤ 120 * k := by
  induction k with
  | zero => simp [sumW]
  | succ k ih =>
    rw [sumW]
    split
    · rename_i q hq
      obtain ⟨a, b, c, d⟩ := q
      obtain ⟨_, _, _, _, _, _, _, _, _, _, _, w0, w1⟩ := h.at hq
      omega
    · omega
/-- the sum of all waits, and whether all rules are kept -/
def waitsM (l : List Q4) (p : Int) (ts : List Int) : Int × Bool := if keepsB l p ts then (sumW l p ts l.length, true) else (0, false)
theorem waitsM_snd (l : List Q4) (p : Int) (ts : List Int) : (waitsM l p ts).2 = keepsB l p ts := by
  unfold waitsM; cases keepsB l p ts <;> rfl
set_option maxHeartbeats 1000000 in
set_option maxRecDepth 100000 in
theorem waits_any (v u : Value) (l : List Q4) (ts : List Int) (p : Int) (w : World) (hs : Sl w 4 v l.length (q4s l)) (ht : Sl w 1 u ts.length (ts.map vi)) (hok : TabOk l p ts) :
    Calls Try.prog 67 #[v, u, .int .i64 p] w fun r w' => r = .returned (.tuple #[.int .i64 (waitsM l p ts).1, .bool (waitsM l p ts).2]) ∧ Below w.heap.size w w' := by
  obtain ⟨A, cap, rfl, hcap, hr⟩ := hs
  have hn32 := hok.n
  generalize hn : l.length = n at *
  have Hn := hd hn
  clear hn
  have p0 := hok.p0
  have p1 := hok.p1
  have Hok := hd hok
  clear hok
  go_enter Try.func67, Try.ntmps67
  go_wp2
  go_loopw [8, 14] (fun m i wr => ∃ k : Nat, k ≤ n ∧ i = .int .i64 k ∧ m = .int .i64 (sumW l p ts k) ∧ Hid ((l.take k).all (fun q => decide (waitQ ts p q ≤ q.d)) = true) ∧ Below w.heap.size w wr) (fun _ i _ => n - (intOf i).toNat)
  case atStart => exact ⟨0, by omega, rfl, rfl, by simp [Hid], Below.refl _ _⟩
  case round =>
    obtain ⟨k, hk, rfl, rfl, ha, hb⟩ := hrel
    by_cases hlt : k < n
    · obtain ⟨b, off, qa, qb, qc, qd, hA, hq, c0, c1, c2, c3⟩ := (hr.below hb).q4 hlt
      cases hA
      obtain ⟨na, nb, rfl, rfl, la, lb, x0, x1, ⟨y0, y1⟩, ⟨y2, y3⟩, hwq, z0, z1⟩ := Hok.out.at hq.out
      obtain ⟨s0, s1⟩ := sumW_bd Hok.out k
      have Hs := hd (sumW_succ (p := p) (ts := ts) hq.out)
      have Hb := hd hb
      have Hw := hd (fun W h => wait_any na nb qc qd p _ _ u ts W h la lb rfl rfl x0 x1 (by omega) p1 y0 y1 y2 y3)
      rw [← hwq] at Hw
      have Ha1 := hd (fun (h : waitQ ts p ⟨na, nb, qc, qd⟩ ≤ qd) => all_take_of (p := fun q => decide (waitQ ts p q ≤ q.d)) ha.out hq.out (decide_eq_true h))
      have Ha2 := hd (fun (h : ¬ waitQ ts p ⟨na, nb, qc, qd⟩ ≤ qd) => all_false_of (p := fun q => decide (waitQ ts p q ≤ q.d)) hq.out (decide_eq_false h))
      generalize waitQ ts p ⟨na, nb, qc, qd⟩ = x at *
      generalize hsk : sumW l p ts k = sk at *
      clear hr hb hwq la lb y0 y1 y2 y3 hsk
      go_wp2_with fail
      refine (Hw.out _ ((ht.below Hb.out).below ((Below.refl _ _).alloc (Nat.le_refl _) _))).mono ?_
      rintro e w2 ⟨rfl, hb2⟩
      have d3 := below_at hb2 (a := ⟨wr.heap.size, 3, none⟩) (v := .int .i64 qd) (by simp [go_sem])
      have Hb2 := hd (below_tr hb2 (Hb.out.alloc Hb.out.size _))
      clear c0 c1 c2 c3 hb2
      by_cases hx : x ≤ qd
      · go_wp2
        go_roundw
        case rel => exact ⟨k + 1, by omega, by go_num, by rw [Hs.out], Ha1.out hx, Hb2.out⟩
        case measure => simp [intOf]; omega
      · have hx' : qd < x := by omega
        go_wp2
        go_ret2
        rw [show waitsM l p ts = (0, false) by rw [waitsM, show keepsB l p ts = false from Ha2.out hx]; rfl]
        exact ⟨rfl, Hb2.out⟩
    · have e : k = n := by omega
      subst e
      go_wp2
      go_ret2
      rw [show waitsM l p ts = (sumW l p ts l.length, true) by rw [waitsM, show keepsB l p ts = true from all_whole ha.out (by have := Hn.out; omega)]; rfl, Hn.out]
      exact ⟨rfl, hb⟩

set_option maxHeartbeats 1000000 in
set_option maxRecDepth 100000 in
theorem l05Keeps_any (v u : Value) (l : List Q4) (ts : List Int) (p : Int) (w : World) (hs : Sl w 4 v l.length (q4s l)) (ht : Sl w 1 u ts.length (ts.map vi)) (hok : TabOk l p ts) :
    Calls Try.prog 63 #[v, .int .i64 p, u] w fun r w' => r = .returned (.bool (keepsB l p ts)) ∧ Below w.heap.size w w' := by
  obtain ⟨A, cap, rfl, hcap, hr⟩ := hs
  have hn32 := hok.n
  generalize hn : l.length = n at *
  have Hn := hd hn
  clear hn
  have p0 := hok.p0
  have p1 := hok.p1
  have Hok := hd hok
  clear hok
  go_enter Try.func63, Try.ntmps63
  go_wp2
  go_loopw [10] (fun i wr => ∃ k : Nat, k ≤ n ∧ i = .int .i64 k ∧ Hid ((l.take k).all (fun q => decide (waitQ ts p q ≤ q.d)) = true) ∧ Below w.heap.size w wr) (fun i _ => n - (intOf i).toNat)
  case atStart => exact ⟨0, by omega, rfl, by simp [Hid], Below.refl _ _⟩
  case round =>
    obtain ⟨k, hk, rfl, ha, hb⟩ := hrel
    by_cases hlt : k < n
    · obtain ⟨b, off, qa, qb, qc, qd, hA, hq, c0, c1, c2, c3⟩ := (hr.below hb).q4 hlt
      cases hA
      obtain ⟨na, nb, rfl, rfl, la, lb, x0, x1, ⟨y0, y1⟩, ⟨y2, y3⟩, hwq, z0, z1⟩ := Hok.out.at hq.out
      have Hb := hd hb
      have HW := hd (fun (W : World) g o hS h0 h1 h2 => l05Wait_any na nb qc p _ _ g o u ts W hS la lb h0 h1 h2 rfl rfl x0 x1 (by omega) p1 y0 y1 y2 y3)
      rw [← hwq] at HW
      have Ha1 := hd (fun (h : waitQ ts p ⟨na, nb, qc, qd⟩ ≤ qd) => all_take_of (p := fun q => decide (waitQ ts p q ≤ q.d)) ha.out hq.out (decide_eq_true h))
      have Ha2 := hd (fun (h : ¬ waitQ ts p ⟨na, nb, qc, qd⟩ ≤ qd) => all_false_of (p := fun q => decide (waitQ ts p q ≤ q.d)) hq.out (decide_eq_false h))
      generalize waitQ ts p ⟨na, nb, qc, qd⟩ = x at *
      have HS := hd (ht.below hb)
      clear hr hb hwq la lb y0 y1 y2 y3
      have i1 : (0 : Int) ≤ (k : Int) := by omega
      have i2 : (k : Int) < (n : Int) := by omega
      go_wp2
      go_quiet ((go_at_call 64; exact Calls.quiet_of (HW.out _ _ _ HS.out c0 c1 c2)))
      by_cases hx : x ≤ qd
      · go_wp2
        go_roundw
        case rel => exact ⟨k + 1, by omega, by go_num, Ha1.out hx, below_drewN Hb.out _⟩
        case measure => simp [intOf]; omega
      · have hx' : qd < x := by omega
        go_wp2
        go_ret
        exact ⟨ret_bool (Ha2.out hx).symm, below_drewN Hb.out _⟩
    · have e : k = n := by omega
      subst e
      go_wp2
      go_ret
      exact ⟨ret_bool (all_whole ha.out (by have := Hn.out; omega)).symm, hb⟩
end Go.Proofs.Ytldehffhpblliaa
