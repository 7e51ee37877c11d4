/- Chains of trips: the match of trips, the test that is handed over, the place of a number in a list. -/
import Derived.Test.YtjcmgjjnkbhamaaProg
import Derived.Test.YtjcmgjjnkbhamaaVehT
import Derived.Test.YtjcmgjjnkbhamaaTable
import Derived.Test.YtjcmgjjnkbhamaaMatchQ
import Derived.Deep.RegionWith
namespace Go.Proofs.Ytjcmgjjnkbhamaa
open Go.RowKit Plain
set_option linter.unusedVariables false
set_option linter.unusedSimpArgs false
attribute [local go_sem ↓] Go.wp_at_zero Go.wp_at_succ

def fitV (l : List Q4) (ms : List Int) (i k : Nat) : Bool := cellF l ms (i * l.length + k)
def poV (l : List Q4) (ms : List Int) : List Int := matM (fitV l ms) l.length l.length
def nxV (l : List Q4) (ms : List Int) (x : Nat) : Int := firstI (poV l ms) x l.length
def stV (l : List Q4) (x : Nat) : Nat := match l[x]? with
  | some a => a.a.toNat
  | none => 0
theorem stV_le {l : List Q4} (h : tripsB l = true) (x : Nat) : stV l x ≤ 10000 := by
  unfold stV
  cases e : l[x]? with
  | none => simp
  | some a =>
    obtain ⟨a, b, c, d⟩ := a
    obtain ⟨_, _, _, _, _, _, _, h1, _⟩ := trips_q h e
    show a.toNat ≤ 10000
    omega
theorem fit_st {l : List Q4} {ms : List Int} (h : tripsB l = true) (h2 : movesB ms = true) {i k : Nat} (hi : i < l.length) (hk : k < l.length) (hf : fitV l ms i k = true) : stV l i < stV l k := by
  obtain ⟨a, b, c, d, ea⟩ : ∃ a b c d, l[i]? = some ⟨a, b, c, d⟩ := ⟨l[i].a, l[i].b, l[i].c, l[i].d, List.getElem?_eq_getElem hi⟩
  obtain ⟨a', b', c', d', eb⟩ : ∃ a b c d, l[k]? = some ⟨a, b, c, d⟩ := ⟨l[k].a, l[k].b, l[k].c, l[k].d, List.getElem?_eq_getElem hk⟩
  have hab : a + 1 ≤ b := by
    rw [tripsB, Bool.and_eq_true, List.all_eq_true] at h
    have := tripB_iff.1 (h.1 _ (List.mem_of_getElem? ea))
    simp only at this
    omega
  obtain ⟨nc, nd, rfl, rfl, _, g2, q1, _⟩ := trips_q h ea
  obtain ⟨nc', nd', rfl, rfl, g3, _, q2, _⟩ := trips_q h eb
  rw [fitV, cellF_at ea eb, folB_nat, decide_eq_true_eq] at hf
  have m := moves_at h2 nd nc' g2 g3
  show (stV l i) < (stV l k)
  unfold stV
  rw [ea, eb]
  show a.toNat < a'.toNat
  omega
theorem po_facts {l : List Q4} {ms : List Int} : (poV l ms).length = l.length ∧ Apart1 (poV l ms) l.length (fun _ => False) ∧ (∀ k, k < l.length → 0 ≤ (poV l ms).getD k 0 → fitV l ms ((poV l ms).getD k 0).toNat k = true) ∧ (∀ k, k < l.length → (poV l ms).getD k 0 = -1 ∨ (0 ≤ (poV l ms).getD k 0 ∧ (poV l ms).getD k 0 < l.length)) := by
  have g := mat_good (fitV l ms) l.length l.length l.length (Nat.le_refl _)
  have m := matM_ok (fitV l ms) l.length l.length l.length (Nat.le_refl _)
  exact ⟨m.1, g.1, g.2.1, m.2⟩
theorem nx_facts {l : List Q4} {ms : List Int} (h : tripsB l = true) (h2 : movesB ms = true) (x : Nat) (hx : x < l.length) : nxV l ms x = -1 ∨ ∃ k : Nat, nxV l ms x = k ∧ k < l.length ∧ stV l x < stV l k := by
  rcases first_is (po := poV l ms) (x := (x : Int)) (m := l.length) with e | ⟨k, hk, e, e2⟩
  · exact .inl e
  · refine .inr ⟨k, e, hk, fit_st h h2 hx hk ?_⟩
    have := (po_facts (l := l) (ms := ms)).2.2.1 k hk (by omega)
    rw [e2, Int.toNat_natCast] at this
    exact this
theorem veh_start {l : List Q4} {ms : List Int} (h : tripsB l = true) (h2 : movesB ms = true) : vehV (poV l ms) (nxV l ms) 10001 (List.replicate l.length 0) l.length = vehV (poV l ms) (nxV l ms) 10001 (List.replicate l.length (-1)) l.length := by
  refine veh_same (g := stV l) (stV_le h) (fun x hx => ?_) (fun k hk => ?_) _ _ (by simp) (by simp)
  · rcases nx_facts h h2 x hx with e | ⟨k, e, hk, hs⟩
    · left; omega
    · right; rw [e, Int.toNat_natCast]; exact ⟨by omega, by omega, hs⟩
  · obtain ⟨_, f1, _, f2⟩ := po_facts (l := l) (ms := ms)
    rcases f2 k hk with e | ⟨e1, e2⟩
    · left; omega
    · refine .inr ⟨e1, e2, ?_⟩
      rw [nxV, Int.toNat_of_nonneg e1]
      refine first_found hk rfl (fun j hj e => ?_)
      have := f1 j k (by omega) hk (fun h => h) (fun h => h) (by rw [e]; exact e1) e
      omega

set_option maxHeartbeats 1000000 in
theorem index_any (v : Value) (xs : List Int) (x : Int) (w : World) (hs : Sl w 1 v xs.length (xs.map vi)) (hl : xs.length ≤ 1048576) :
    Calls Try.prog 21 #[v, .int .i64 x] w fun r w' => r = .returned (.int .i64 (firstI xs x xs.length)) ∧ w' = w := by
  obtain ⟨A, cap, rfl, hcap, hr⟩ := hs
  have FF := hd (fun k (hk : k < xs.length) hx (h : ∀ j, j < k → xs.getD j 0 ≠ x) => first_found (po := xs) (x := x) hk hx h)
  have FN := hd (fun (h : ∀ j, j < xs.length → xs.getD j 0 ≠ x) => first_none (po := xs) (x := x) h)
  have HR := hd hr
  generalize xs.length = n at *
  clear hr
  go_enter Try.func21, Try.ntmps21
  go_wp2
  go_loop [8] (fun i => ∃ k : Nat, k ≤ n ∧ i = .int .i64 k ∧ Hid (∀ j, j < k → xs.getD j 0 ≠ x)) (fun i => n - (intOf i).toNat)
  case atStart => exact ⟨0, by omega, rfl, hd (fun j hj => by omega)⟩
  case round =>
    obtain ⟨k, hk, rfl, ha⟩ := hrel
    by_cases hlt : k < n
    · obtain ⟨b, off, rfl, hc⟩ := HR.out.int hlt
      have E := hd (fun h => FF.out k hlt h ha.out)
      generalize hv : xs.getD k 0 = y at *
      have HV := hd hv
      clear hv
      have i1 : (0 : Int) ≤ (k : Int) := by omega
      have i2 : (k : Int) < (n : Int) := by omega
      by_cases hxy : x = y
      · have E2 := hd (E.out hxy.symm)
        clear E
        subst hxy
        go_wp2
        go_ret
        exact ⟨ret_i64 E2.out.symm, rfl⟩
      · clear E
        have hxy2 : (x == y) = false := by simpa using hxy
        go_wp2
        go_round
        case rel =>
          refine ⟨k + 1, by omega, by go_num, hd (fun j hj => ?_)⟩
          rcases Nat.lt_or_ge j k with h | h
          · exact ha.out j h
          · have : j = k := by omega
            subst this
            rw [HV.out]; exact fun h => hxy h.symm
        case measure => simp [intOf]; omega
    · have e : k = n := by omega
      subst e
      have E := hd (FN.out ha.out)
      go_wp2
      go_ret
      exact ⟨ret_i64 E.out.symm, rfl⟩

theorem sl_drew {w : World} {size n : Nat} {v : Value} {xs : List Value} (h : Sl w size v n xs) : Sl w.drew size v n xs := h
set_option maxHeartbeats 2000000 in
theorem fv_any (l : List Q4) (ms : List Int) (x1 x2 : Nat) (v1 v2 : Value) (w : World) (h1 : Sl w 4 v1 l.length (q4s l)) (h2 : Sl w 1 v2 ms.length (ms.map vi)) (hl : tripsB l = true) (hm : movesB ms = true)
    (c1 : w.cell? ⟨x1, 0, none⟩ = some v1) (c2 : w.cell? ⟨x2, 0, none⟩ = some v2) (i k : Nat) (hi : i < l.length) (hk : k < l.length) :
    Calls Try.prog 18 #[.int .i64 i, .int .i64 k, .pointer (some ⟨x1, 0, none⟩), .pointer (some ⟨x2, 0, none⟩)] w fun e w2 => e = .returned (.bool (fitV l ms i k)) ∧ Below w.heap.size w w2 := by
  obtain ⟨A1, p1, rfl, hp1, r1⟩ := h1
  have S2 := hd h2
  obtain ⟨A2, p2, rfl, hp2, r2⟩ := h2
  obtain ⟨b1, o1, a, b, c, d, rfl, hq, e0, e1, e2, e3⟩ := r1.q4 hi
  obtain ⟨b2, o2, a', b', c', d', hA, hq', f0, f1, f2, f3⟩ := r1.q4 hk
  cases hA
  obtain ⟨nc0, nd, rfl, rfl, _, g2, _, _, g3, g4⟩ := trips_q hl hq.out
  obtain ⟨nc, nd0, rfl, rfl, g1, _, _⟩ := trips_q hl hq'.out
  obtain ⟨m0, m1⟩ := moves_at hm nd nc g2 g1
  have FO := hd (fun w' h => follows_any a b nc0 a' b' nd0 nd nc (.slice A2 ms.length p2) ms w' h (movesB_iff.1 hm).1 g2 g1 g3 g4 m0 m1)
  have C := hd (show fitV l ms i k = decide (b + ms.getD (nd * 8 + nc) 0 ≤ a') by rw [fitV, cellF_at hq.out hq'.out, folB_nat])
  generalize decide (b + ms.getD (nd * 8 + nc) 0 ≤ a') = y at *
  generalize l.length = n at *
  have i1 : (0 : Int) ≤ (i : Int) := by omega
  have i2 : (i : Int) < (n : Int) := by omega
  have i3 : (0 : Int) ≤ (k : Int) := by omega
  have i4 : (k : Int) < (n : Int) := by omega
  clear r1 r2 hq hq' m0 m1 g1 g2 g3 g4 hl hm
  go_enter Try.func18, Try.ntmps18
  go_wp2
  go_region_with (go_at_call 19; refine (FO.out _ ?_).mono ?_; exact sl_drew S2.out; rintro e w2 ⟨rfl, hb2⟩; have HB2 := hd hb2; clear hb2)
  all_goals
    go_wp2
    go_ret
    exact ⟨ret_bool C.out.symm, below_tr HB2.out ((Below.refl _ _).drew)⟩
end Go.Proofs.Ytjcmgjjnkbhamaa
