/- The ring on the way back rises, summed over its arcs; what a ring says of quotients. No program stands here. -/
import Derived.Test.YtclkgfcehmmgaaaRingS
import Derived.Test.YtclkgfcehmmgaaaRelT
import Derived.Test.YtclkgfcehmmgaaaWords
namespace Go.Proofs.Ytclkgfcehmmgaaa.Plain

/-- what the arc that raised a node rises -/
def riseF (rs0 : List ArcT) (s : BackS) (v : Nat) : Int := match rs0[(s.c.getD v 0).toNat]? with
  | some a => a.2.2
  | none => 0
def WayB (rs0 : List ArcT) (n : Nat) (s : BackS) : Prop := s.t.length = n ∧ s.c.length = n ∧ s.m.length = n ∧ WayInv (backF rs0 s) (riseF rs0 s) (fun v => s.t.getD v 0) (fun v => 1 ≤ s.m.getD v 0)
theorem wayB_step {rs0 : List ArcT} {n r : Nat} {s : BackS} {x : Nat × ArcT} (hx : rs0[x.1]? = some x.2) (hv : x.2.2.1 < n) (h : WayB rs0 n s) : WayB rs0 n (relB r s x) := by
  obtain ⟨h1, h2, h3, h4⟩ := h
  unfold relB
  split
  · rename_i hc
    have cs : ∀ v, v ≠ x.2.2.1 → (s.c.set x.2.2.1 (x.1 : Int)).getD v 0 = s.c.getD v 0 := by intro v hv; rw [getD_setI, if_neg (fun e => hv e.1.symm)]
    have c0 : (s.c.set x.2.2.1 (x.1 : Int)).getD x.2.2.1 0 = x.1 := by rw [getD_setI, if_pos ⟨rfl, by omega⟩]
    refine ⟨by simpa using h1, by simpa using h2, by simpa using h3, way_step (v0 := x.2.2.1) h4 ?_ ?_ ?_ ?_ ?_ ?_⟩
    · intro v hv
      simp only [backF, cs v hv]
    · intro v hv
      simp only [riseF, cs v hv]
    · intro v hv
      show (s.t.set _ _).getD v 0 = _
      rw [getD_setI, if_neg (fun e => hv e.1.symm)]
    · intro v hv hne
      change 1 ≤ (s.m.set _ _).getD v 0 at hv
      rw [getD_setN, if_neg (fun e => hne e.1.symm)] at hv
      exact hv
    · simp only [backF, riseF, c0, Int.toNat_natCast, hx]
      exact hc
    · simp only [backF, riseF, c0, Int.toNat_natCast, hx]
      rw [getD_setI, if_pos ⟨rfl, by omega⟩]
  · exact ⟨h1, h2, h3, h4⟩
theorem wayB_fold {rs0 : List ArcT} {n r : Nat} (hv : ∀ a ∈ rs0, a.1 < n ∧ a.2.1 < n) (rs : List (Nat × ArcT)) : ∀ s : BackS, (∀ x ∈ rs, rs0[x.1]? = some x.2) → WayB rs0 n s → WayB rs0 n (rs.foldl (relB r) s) := by
  induction rs with
  | nil => intro s _ h; exact h
  | cons x rs ih =>
    intro s hm h
    have hx := hm x (by simp)
    exact ih _ (fun y hy => hm y (by simp [hy])) (wayB_step hx (hv _ (List.mem_of_getElem? hx)).2 h)
theorem wayB_all {rs0 : List ArcT} {n : Nat} (hv : ∀ a ∈ rs0, a.1 < n ∧ a.2.1 < n) (k : Nat) : WayB rs0 n (tmB rs0 n k) := by
  induction k with
  | zero =>
    have hz : ∀ v, (List.replicate n 0 : List Nat).getD v 0 = 0 := by
      intro v; rw [List.getD_eq_getElem?_getD, List.getElem?_replicate]; split <;> rfl
    refine ⟨by simp [tmB], by simp [tmB], by simp [tmB], fun x hx => ?_, fun v d hd hs _ => ?_⟩
    · change 1 ≤ (List.replicate n 0 : List Nat).getD x 0 at hx
      rw [hz] at hx; omega
    · have := hs 0 (by omega)
      change 1 ≤ (List.replicate n 0 : List Nat).getD _ 0 at this
      rw [hz] at this; omega
  | succ k ih => exact wayB_fold hv (idxA rs0) _ (fun x hx => idxA_get hx) ih
theorem itU_add (f : Nat → Nat) (v n s : Nat) : itU f (itU f v n) s = itU f v (n + s) := by
  induction s with
  | zero => rfl
  | succ s ih => rw [itU, ih]; rfl
/-- back_ring, and what the ring rises -/
theorem back_rise {rs0 : List ArcT} {n K : Nat} (hn : 1 ≤ n) (hK : n ≤ K) (hv : ∀ a ∈ rs0, a.1 < n ∧ a.2.1 < n) {v : Nat} (hvn : v < n) (hm : (tmB rs0 n K).m.getD v 0 = K) {d : Nat} (hd : 1 ≤ d)
    (hc : itU (backF rs0 (tmB rs0 n K)) v (n + d) = itU (backF rs0 (tmB rs0 n K)) v n) : 0 < wayW (backF rs0 (tmB rs0 n K)) (riseF rs0 (tmB rs0 n K)) (itU (backF rs0 (tmB rs0 n K)) v n) d := by
  have I := backInv_all hv K
  have W := (wayB_all hv K).2.2.2
  generalize tmB rs0 n K = S at *
  have key : ∀ j, j ≤ n → itU (backF rs0 S) v j < n ∧ K ≤ S.m.getD (itU (backF rs0 S) v j) 0 + j := by
    intro j
    induction j with
    | zero => intro _; exact ⟨hvn, by rw [itU, hm]; omega⟩
    | succ j ih =>
      intro hj
      obtain ⟨h1, h2⟩ := ih (by omega)
      obtain ⟨i, a, e1, e2, _, e5⟩ := I.told _ (show 1 ≤ S.m.getD (itU (backF rs0 S) v j) 0 by omega)
      have e4 : a.1 = backF rs0 S (itU (backF rs0 S) v j) := by rw [backF, e1, Int.toNat_natCast, e2]
      rw [itU, ← e4]
      exact ⟨(hv a (List.mem_of_getElem? e2)).1, by omega⟩
  obtain ⟨r1, _⟩ := ring_back (f := backF rs0 S) (v := v) (ok := fun x => 1 ≤ S.m.getD x 0) (fun k hk => (key k hk).1) (fun k hk => by have := (key k (by omega)).2; omega)
  exact W.pos _ d hd (fun s _ => by rw [itU_add]; exact r1 _) (by rw [itU_add]; exact hc)

/-- the sum of a number of each arc -/
def sumQ (f : Q4 → Int) : List Q4 → Int
  | [] => 0
  | a :: l => f a + sumQ f l
theorem sumQ_app (f : Q4 → Int) (l m : List Q4) : sumQ f (l ++ m) = sumQ f l + sumQ f m := by
  induction l with
  | nil => simp [sumQ]
  | cons a l ih => simp only [List.cons_append, sumQ, ih]; omega
theorem sumQ_rev (f : Q4 → Int) (l : List Q4) : sumQ f l.reverse = sumQ f l := by
  induction l with
  | nil => rfl
  | cons a l ih => rw [List.reverse_cons, sumQ_app, ih]; simp only [sumQ]; omega
theorem sumQ_lin (q lg : Int) (l : List Q4) : sumQ (fun a => q * a.c - lg * a.d) l = q * sumQ Q4.c l - lg * sumQ Q4.d l := by
  induction l with
  | nil => simp [sumQ]
  | cons a l ih => simp only [sumQ, ih, Int.mul_add]; omega
theorem sumQ_le {f g : Q4 → Int} {l : List Q4} (h : ∀ a ∈ l, f a ≤ g a) : sumQ f l ≤ sumQ g l := by
  induction l with
  | nil => exact Int.le_refl _
  | cons a l ih =>
    have h1 := h a (by simp)
    have h2 := ih (fun b hb => h b (by simp [hb]))
    simp only [sumQ]; omega
theorem sumQ_const (c : Int) (l : List Q4) : sumQ (fun _ => c) l = c * l.length := by
  induction l with
  | nil => simp [sumQ]
  | cons a l ih => simp only [sumQ, ih, List.length_cons]; push_cast; rw [Int.mul_add]; omega
/-- a closed walk along arcs of a list -/
structure RingQ (l rz : List Q4) : Prop where
  one : 1 ≤ rz.length
  top : rz.length ≤ 12
  mem : ∀ a ∈ rz, a ∈ l
  ring : ∀ F : Nat → Int, sumQ (fun a => F a.b.toNat - F a.a.toNat) rz = 0
theorem RingQ.rev {l rz : List Q4} (h : RingQ l rz) : RingQ l rz.reverse := ⟨by simpa using h.one, by simpa using h.top, fun a ha => h.mem a (by simpa using ha), fun F => by rw [sumQ_rev]; exact h.ring F⟩
/-- the arcs on the way back, from step k on, s of them -/
def wayI (S : BackS) (T : Nat → Nat) (k s : Nat) : List Nat := (List.range s).map fun j => (S.c.getD (T (k + j)) 0).toNat
def wayL (l : List Q4) (S : BackS) (T : Nat → Nat) (k s : Nat) : List Q4 := (wayI S T k s).map fun i => l[i]?.getD ⟨0, 0, 0, 0⟩
theorem wayI_succ (S : BackS) (T : Nat → Nat) (k s : Nat) : wayI S T k (s + 1) = wayI S T k s ++ [(S.c.getD (T (k + s)) 0).toNat] := by simp [wayI, List.range_succ]
theorem wayL_succ {l : List Q4} {S : BackS} {T : Nat → Nat} {k s : Nat} {i : Nat} {a : Q4} (h1 : S.c.getD (T (k + s)) 0 = (i : Int)) (h2 : l[i]? = some a) : wayL l S T k (s + 1) = wayL l S T k s ++ [a] := by
  rw [wayL, wayI_succ, List.map_append, h1, Int.toNat_natCast]
  simp [wayL, h2]
theorem wayL_len (l : List Q4) (S : BackS) (T : Nat → Nat) (k s : Nat) : (wayL l S T k s).length = s := by simp [wayL, wayI]
/-- the way back, come to where it was, is a ring that rises -/
theorem way_ring {l : List Q4} {lg q : Int} {rs0 : List ArcT} {n K : Nat} (hal : rs0 = l.map fun a => (a.a.toNat, a.b.toNat, q * a.c - lg * a.d)) (hn : 1 ≤ n) (hn2 : n ≤ 12) (hK : n ≤ K) (hv : ∀ a ∈ rs0, a.1 < n ∧ a.2.1 < n) {v : Nat} (hvn : v < n) (hm : (tmB rs0 n K).m.getD v 0 = K) {d : Nat} (hd : 1 ≤ d) (hd2 : d ≤ n)
    (hc : itU (backF rs0 (tmB rs0 n K)) v (n + d) = itU (backF rs0 (tmB rs0 n K)) v n) :
    RingQ l (wayL l (tmB rs0 n K) (itU (backF rs0 (tmB rs0 n K)) v) n d) ∧ 0 < q * sumQ Q4.c (wayL l (tmB rs0 n K) (itU (backF rs0 (tmB rs0 n K)) v) n d) - lg * sumQ Q4.d (wayL l (tmB rs0 n K) (itU (backF rs0 (tmB rs0 n K)) v) n d) := by
  obtain ⟨BR, _⟩ := back_ring hn hK hv hvn hm
  have hp := back_rise hn hK hv hvn hm hd hc
  generalize tmB rs0 n K = S at *
  obtain ⟨T, hT⟩ : ∃ T, T = itU (backF rs0 S) v := ⟨_, rfl⟩
  have hT2 : ∀ s, itU (backF rs0 S) (itU (backF rs0 S) v n) s = T (n + s) := fun s => by rw [itU_add, hT]
  rw [← hT] at BR hc ⊢
  have ST : ∀ s, ∃ (i : Nat) (a : Q4), S.c.getD (T s) 0 = (i : Int) ∧ l[i]? = some a ∧ a.b.toNat = T s ∧ a.a.toNat = T (s + 1) ∧ riseF rs0 S (T s) = q * a.c - lg * a.d := by
    intro s
    obtain ⟨i, a, e1, e2, e3, e4⟩ := BR s
    rw [hal, List.getElem?_map] at e2
    cases e : l[i]? with
    | none => rw [e] at e2; cases e2
    | some z =>
      rw [e] at e2
      have e5 := Option.some.inj e2
      refine ⟨i, z, e1, e, by rw [← e3, ← e5], by rw [← e4, ← e5], ?_⟩
      rw [riseF, e1, Int.toNat_natCast, hal, List.getElem?_map, e]
      rfl
  have key : ∀ s, (∀ a ∈ wayL l S T n s, a ∈ l) ∧ (∀ F : Nat → Int, sumQ (fun a => F a.b.toNat - F a.a.toNat) (wayL l S T n s) = F (T n) - F (T (n + s))) ∧ sumQ (fun a => q * a.c - lg * a.d) (wayL l S T n s) = wayW (backF rs0 S) (riseF rs0 S) (itU (backF rs0 S) v n) s := by
    intro s
    induction s with
    | zero => exact ⟨fun a ha => by simp [wayL, wayI] at ha, fun F => by simp [wayL, wayI, sumQ], rfl⟩
    | succ s ih =>
      obtain ⟨i1, i2, i3⟩ := ih
      obtain ⟨i, a, e1, e2, e3, e4, e5⟩ := ST (n + s)
      rw [wayL_succ e1 e2]
      refine ⟨fun b hb => ?_, fun F => ?_, ?_⟩
      · rcases List.mem_append.1 hb with hb | hb
        · exact i1 b hb
        · have : b = a := by simpa using hb
          rw [this]; exact List.mem_of_getElem? e2
      · rw [sumQ_app, i2 F]
        simp only [sumQ]
        rw [e3, e4, show n + s + 1 = n + (s + 1) by omega]
        omega
      · rw [sumQ_app, i3, wayW, hT2, e5]
        simp only [sumQ]
        omega
  obtain ⟨k1, k2, k3⟩ := key d
  refine ⟨⟨by rw [wayL_len]; exact hd, by rw [wayL_len]; omega, k1, fun F => by rw [k2 F, hc]; omega⟩, ?_⟩
  rw [← sumQ_lin, k3]
  exact hp
/-- no ring rises where the times at last are reached -/
theorem ring_fix {l rz : List Q4} {lg q : Int} {n : Nat} (hv : ∀ a ∈ l, a.a.toNat < n ∧ a.b.toNat < n) (hr : RingQ l rz) (hf : fixA (l.map fun a => (a.a.toNat, a.b.toNat, q * a.c - lg * a.d)) n = true) : q * sumQ Q4.c rz - lg * sumQ Q4.d rz ≤ 0 := by
  have hc := fix_closed (fun a ha => by
    obtain ⟨z, hz, rfl⟩ := List.mem_map.1 ha
    rw [tmA_len]; exact (hv z hz).2) (of_decide_eq_true hf)
  rw [← sumQ_lin]
  have h := hr.ring (fun v => (tmA (l.map fun a => (a.a.toNat, a.b.toNat, q * a.c - lg * a.d)) n (n - 1)).getD v 0)
  rw [← h]
  refine sumQ_le (fun a ha => ?_)
  have := hc _ (List.mem_map.2 ⟨a, hr.mem a ha, rfl⟩)
  simp only at this
  omega
/-- each ring has a mark -/
theorem ring_mark {l rz : List Q4} {n : Nat} (hv : ∀ a ∈ l, a.a.toNat < n ∧ a.b.toNat < n) (hd : ∀ a ∈ l, 0 ≤ a.d) (hr : RingQ l rz) (hf : fixA ((l.filter fun a => decide (a.d = 0)).map fun a => (a.a.toNat, a.b.toNat, (1 : Int))) n = true) : 1 ≤ sumQ Q4.d rz := by
  have hc := fix_closed (fun a ha => by
    obtain ⟨z, hz, rfl⟩ := List.mem_map.1 ha
    rw [tmA_len]; exact (hv z (List.mem_filter.1 hz).1).2) (of_decide_eq_true hf)
  generalize (tmA ((l.filter fun a => decide (a.d = 0)).map fun a => (a.a.toNat, a.b.toNat, (1 : Int))) n (n - 1)) = t at hc
  rcases Int.lt_or_le 0 (sumQ Q4.d rz) with h | h
  · omega
  · exfalso
    have hz : ∀ a ∈ rz, a.d = 0 := by
      have hm := hr.mem
      clear hr hc hf
      induction rz with
      | nil => intro a ha; cases ha
      | cons b rz ih =>
        have hb := hd b (hm b (by simp))
        have hs : 0 ≤ sumQ Q4.d rz := by
          have := sumQ_le (f := fun _ => 0) (g := Q4.d) (l := rz) (fun a ha => hd a (hm a (by simp [ha])))
          rw [sumQ_const] at this
          omega
        simp only [sumQ] at h
        intro a ha
        rcases List.mem_cons.1 ha with rfl | ha
        · omega
        · exact ih (by omega) (fun a ha => hm a (by simp [ha])) a ha
    have h1 := hr.ring (fun v => t.getD v 0)
    have h2 := sumQ_le (f := fun _ => 1) (g := fun a => t.getD a.b.toNat 0 - t.getD a.a.toNat 0) (l := rz) (fun a ha => by
      have := hc _ (List.mem_map.2 ⟨a, List.mem_filter.2 ⟨hr.mem a ha, by simp [hz a ha]⟩, rfl⟩)
      simp only at this
      omega)
    rw [sumQ_const] at h2
    have h3 := hr.one
    omega
/-- bounds of a ring's sums -/
theorem ring_bd {l rz : List Q4} (hl : ∀ a ∈ l, (0 ≤ a.c ∧ a.c ≤ 1000) ∧ (0 ≤ a.d ∧ a.d ≤ 10)) (hr : RingQ l rz) : (0 ≤ sumQ Q4.c rz ∧ sumQ Q4.c rz ≤ 12000) ∧ (0 ≤ sumQ Q4.d rz ∧ sumQ Q4.d rz ≤ 120) := by
  have ht := hr.top
  have m := hr.mem
  have a1 := sumQ_le (f := fun _ => 0) (g := Q4.c) (l := rz) (fun a ha => (hl a (m a ha)).1.1)
  have a2 := sumQ_le (f := Q4.c) (g := fun _ => 1000) (l := rz) (fun a ha => (hl a (m a ha)).1.2)
  have a3 := sumQ_le (f := fun _ => 0) (g := Q4.d) (l := rz) (fun a ha => (hl a (m a ha)).2.1)
  have a4 := sumQ_le (f := Q4.d) (g := fun _ => 10) (l := rz) (fun a ha => (hl a (m a ha)).2.2)
  rw [sumQ_const] at a1 a2 a3 a4
  omega
/-- a quotient that is greater: its place among all of them is, too -/
theorem quo_up {L B L' B' : Int} (hB : 1 ≤ B) (hB2 : B ≤ 120) (hB' : 1 ≤ B') (hB2' : B' ≤ 120) (h : 0 < B * L' - L * B') : 14400 * L / B + 1 ≤ 14400 * L' / B' := by
  have h1 : 14400 * L / B * B ≤ 14400 * L := Int.ediv_mul_le _ (by omega)
  rw [Int.le_ediv_iff_mul_le (by omega)]
  generalize 14400 * L / B = q at *
  have h2 : q * B * B' ≤ 14400 * L * B' := Int.mul_le_mul_of_nonneg_right h1 (by omega)
  have h3 : B * B' ≤ 120 * 120 := Int.mul_le_mul hB2 hB2' (by omega) (by omega)
  have h4 : B * ((q + 1) * B') ≤ B * (14400 * L') := by
    have e1 : B * ((q + 1) * B') = q * B * B' + B * B' := by rw [Int.add_mul, Int.mul_add, Int.one_mul, ← Int.mul_assoc, Int.mul_comm B q]
    have e2 : B * (14400 * L') = 14400 * (B * L') := by rw [← Int.mul_assoc, Int.mul_comm B 14400, Int.mul_assoc]
    have e3 : 14400 * L * B' = 14400 * (L * B') := Int.mul_assoc ..
    rw [e1, e2]
    rw [e3] at h2
    omega
  exact Int.le_of_mul_le_mul_left h4 (by omega)
theorem quo_top {L B : Int} (hL : L ≤ 12000) (hB : 1 ≤ B) : 14400 * L / B ≤ 172800000 := by
  by_cases h : 0 ≤ L
  · exact Int.le_trans (Int.ediv_le_self _ (by omega)) (by omega)
  · have : 14400 * L / B < 0 := Int.ediv_neg_of_neg_of_pos (by omega) (by omega)
    omega
/-- a ring's quotient that no ring exceeds -/
def TopQ (l : List Q4) (n L B : Nat) : Prop := 1 ≤ B ∧ fixA (l.map fun a => (a.a.toNat, a.b.toNat, (B : Int) * a.c - (L : Int) * a.d)) n = true ∧ ∃ rz, RingQ l rz ∧ (L : Int) = sumQ Q4.c rz ∧ (B : Int) = sumQ Q4.d rz
theorem top_one {l : List Q4} {n L B L' B' : Nat} (hv : ∀ a ∈ l, a.a.toNat < n ∧ a.b.toNat < n) (h : TopQ l n L B) (h' : TopQ l n L' B') : L * B' = L' * B := by
  obtain ⟨_, f, rz, r, e1, e2⟩ := h
  obtain ⟨_, f', rz', r', e1', e2'⟩ := h'
  have a1 := ring_fix hv r' f
  have a2 := ring_fix hv r f'
  rw [← e1', ← e2'] at a1
  rw [← e1, ← e2] at a2
  have : (L : Int) * B' = L' * B := by
    rw [Int.mul_comm (B : Int), Int.mul_comm (L : Int)] at a1
    rw [Int.mul_comm (B' : Int)] at a2
    rw [Int.mul_comm (L : Int)]
    have : (L : Int) * B' = B' * L := Int.mul_comm ..
    omega
  exact_mod_cast this
theorem frac_one {a b c d : Nat} (hb : 1 ≤ b) (hd : 1 ≤ d) (h : a * d = c * b) : a / Nat.gcd a b = c / Nat.gcd c d ∧ b / Nat.gcd a b = d / Nat.gcd c d := by
  have g1 : 0 < Nat.gcd a b := Nat.gcd_pos_of_pos_right _ hb
  have g2 : 0 < Nat.gcd c d := Nat.gcd_pos_of_pos_right _ hd
  have co1 := Nat.coprime_div_gcd_div_gcd g1
  have co2 := Nat.coprime_div_gcd_div_gcd g2
  have ea := Nat.div_mul_cancel (Nat.gcd_dvd_left a b)
  have eb := Nat.div_mul_cancel (Nat.gcd_dvd_right a b)
  have ec := Nat.div_mul_cancel (Nat.gcd_dvd_left c d)
  have ed := Nat.div_mul_cancel (Nat.gcd_dvd_right c d)
  generalize Nat.gcd a b = g at *
  generalize Nat.gcd c d = k at *
  generalize a / g = x at *
  generalize b / g = y at *
  generalize c / k = z at *
  generalize d / k = u at *
  subst ea eb ec ed
  have hxu : x * u = z * y := by
    have : (g * k) * (x * u) = (g * k) * (z * y) := by
      calc (g * k) * (x * u) = x * g * (u * k) := by ac_rfl
        _ = z * k * (y * g) := h
        _ = (g * k) * (z * y) := by ac_rfl
    exact Nat.eq_of_mul_eq_mul_left (Nat.mul_pos g1 g2) this
  have d1 : y ∣ u := (Nat.Coprime.symm co1).dvd_of_dvd_mul_left (by rw [hxu]; exact Nat.dvd_mul_left y z)
  have d2 : u ∣ y := (Nat.Coprime.symm co2).dvd_of_dvd_mul_left (by rw [← hxu]; exact Nat.dvd_mul_left u x)
  have e := Nat.dvd_antisymm d1 d2
  subst e
  have hy : 0 < y := by
    rcases Nat.eq_zero_or_pos y with h0 | h0
    · subst h0; simp at hb
    · exact h0
  exact ⟨Nat.eq_of_mul_eq_mul_right hy hxu, rfl⟩
open Classical in
noncomputable def qOf (l : List Q4) (n : Nat) : Nat × Nat := if h : ∃ p : Nat × Nat, TopQ l n p.1 p.2 then (h.choose.1 / Nat.gcd h.choose.1 h.choose.2, h.choose.2 / Nat.gcd h.choose.1 h.choose.2) else (0, 0)
theorem qOf_eq {l : List Q4} {n L B : Nat} (hv : ∀ a ∈ l, a.a.toNat < n ∧ a.b.toNat < n) (h : TopQ l n L B) : qOf l n = (L / Nat.gcd L B, B / Nat.gcd L B) := by
  have hx : ∃ p : Nat × Nat, TopQ l n p.1 p.2 := ⟨(L, B), h⟩
  rw [qOf, dif_pos hx]
  have := frac_one hx.choose_spec.1 h.1 (top_one hv hx.choose_spec h)
  rw [this.1, this.2]
end Go.Proofs.Ytclkgfcehmmgaaa.Plain
