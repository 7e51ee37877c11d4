/- IdleMoves of the vehicles that FewestVehicles tells, and of one vehicle for all: what comes of them. No walk stands here. -/
import Derived.Test.YtjcmgjjnkbhamaaProg
import Derived.Test.YtjcmgjjnkbhamaaTripJ
import Derived.Test.YtjcmgjjnkbhamaaTripN
import Derived.Test.YtjcmgjjnkbhamaaIdleT
import Derived.Test.YtjcmgjjnkbhamaaSortS
namespace Go.Proofs.Ytjcmgjjnkbhamaa
open Go.RowKit Plain
set_option linter.unusedVariables false
set_option linter.unusedSimpArgs false
/-- the numbers of trips in order of their starts -/
def ordO (l : List Q4) (k : Nat) : Nat := ((sortL (keyL l) (upTo l.length) l.length).getD k 0).toNat
theorem ord_facts (l : List Q4) : (sortL (keyL l) (upTo l.length) l.length).length = l.length ∧ inL l.length (sortL (keyL l) (upTo l.length) l.length) ∧ oneL (sortL (keyL l) (upTo l.length) l.length) ∧ ordL (keyL l) (sortL (keyL l) (upTo l.length) l.length) l.length :=
  ⟨by rw [sortL_len, upTo_len], inL_sort _ (inL_upTo _) _ (by rw [upTo_len]; exact Nat.le_refl _), oneL_sort _ (oneL_upTo _) _ (by rw [upTo_len]; exact Nat.le_refl _), sortL_ord _ _ _ (by rw [upTo_len]; exact Nat.le_refl _)⟩
theorem ord_in (l : List Q4) {k : Nat} (hk : k < l.length) : ordO l k < l.length := by
  obtain ⟨a, b, _, _⟩ := ord_facts l
  have := b k (by omega)
  rw [ordO]; omega
theorem ord_le (l : List Q4) {m k : Nat} (h : m < k) (hk : k < l.length) : sS l (ordO l m) ≤ sS l (ordO l k) := (ord_facts l).2.2.2 m k h hk
theorem ord_ne (l : List Q4) {m k : Nat} (h : m < k) (hk : k < l.length) : ordO l m ≠ ordO l k := by
  obtain ⟨a, b, c, _⟩ := ord_facts l
  intro e
  have b1 := b m (by omega)
  have b2 := b k (by omega)
  rw [ordO, ordO] at e
  have := c m k (by omega) (by omega) (by omega)
  omega
theorem ord_has (l : List Q4) {x : Nat} (hx : x < l.length) : ∃ k, k < l.length ∧ ordO l k = x := by
  obtain ⟨a, b, c, _⟩ := ord_facts l
  obtain ⟨k, hk, e⟩ := stands a b c x hx
  exact ⟨k, hk, by rw [ordO, e, Int.toNat_natCast]⟩
theorem idle_veh {l : List Q4} {ms : List Int} (h : tripsB l = true) (h2 : movesB ms = true) (mv : Nat → Nat → Int) (hm : ∀ x y, x < l.length → y < l.length → 0 ≤ mv x y) (hn : l.length ≤ 24) :
    ∃ la s, idleF (fitV l ms) mv (fun x => ((VehI.M l ms).1.getD x 0).toNat) (ordO l) l.length = some (la, s) ∧ 0 ≤ s := by
  have hok : VehI.okV l ms = true := by rw [VehI.okV, h, h2]; rfl
  obtain ⟨vs, ct, eM, K⟩ := veh_known h h2
  have e1 : (VehI.M l ms).1 = vs := by rw [eM]
  have evs : vs = (vehV (poV l ms) (nxV l ms) 10001 (List.replicate l.length (-1)) l.length).1 := by rw [← e1, VehI.M_yes hok]
  rw [e1]
  refine idle_known (n := l.length) (fun k hk => ?_) (fun m k hm1 hk => hm _ _ (ord_in l hm1) (ord_in l hk)) (fun m k hmk hk hV hno => ?_) l.length (Nat.le_refl _)
  · have b := K.bd _ (ord_in l hk)
    have := K.top
    show (vs.getD (ordO l k) 0).toNat < 24
    omega
  · have hx := ord_in l (show m < l.length by omega)
    have hy := ord_in l hk
    have b1 := K.bd _ hx
    have b2 := K.bd _ hy
    have hv : vs.getD (ordO l m) 0 = vs.getD (ordO l k) 0 := by
      have hV' : (vs.getD (ordO l m) 0).toNat = (vs.getD (ordO l k) 0).toNat := hV
      omega
    have hle := ord_le l hmk hk
    have hlt : sS l (ordO l m) < sS l (ordO l k) := by
      have s1 := trip_se h _ hx
      have s2 := trip_se h _ hy
      rcases K.apart _ _ hx hy (ord_ne l hmk hk) hv with h1 | h1 <;> omega
    have hp := veh_next (E := eE l) (lnk_of h h2) (trip_se h) (nx_fit h h2) (List.replicate l.length (-1)) (by simp) hx hy (by rw [← evs]; exact hv) hlt (fun z hz hvz h3 h4 => by
      rw [← evs] at hvz
      obtain ⟨j, hj, ej⟩ := ord_has l hz
      have c1 : m < j := by
        rcases Nat.lt_trichotomy j m with h5 | h5 | h5
        · have := ord_le l h5 (by omega); rw [ej] at this; omega
        · subst h5; rw [ej] at h3; omega
        · exact h5
      have c2 : j < k := by
        rcases Nat.lt_trichotomy j k with h5 | h5 | h5
        · exact h5
        · subst h5; rw [ej] at h4; omega
        · have := ord_le l h5 hj; rw [ej] at this; omega
      refine hno j c1 c2 ?_
      show (vs.getD (ordO l j) 0).toNat = (vs.getD (ordO l k) 0).toNat
      rw [ej, hvz])
    have hf := (po_facts (l := l) (ms := ms)).2.2.1 _ hy (by rw [hp]; omega)
    rw [hp, Int.toNat_natCast] at hf
    exact hf
/-- where one vehicle can do all, one trip at most is under way -/
theorem idle_all {l : List Q4} {ms : List Int} (h : tripsB l = true) (h2 : movesB ms = true) (h1 : 1 ≤ l.length) (mv : Nat → Nat → Int) {r : List Int × Int} (hr : idleF (fitV l ms) mv (fun _ => 0) (ordO l) l.length = some r) : BndI.mostTo l l.length = 1 := by
  rw [most_same h _ (Nat.le_refl _)]
  have step : ∀ k, k + 1 < l.length → eE l (ordO l k) ≤ sS l (ordO l (k + 1)) := fun k hk => fit_en h h2 (ord_in l (by omega)) (ord_in l hk) (idle_one (n := l.length) (fun _ _ => rfl) hr k hk)
  have all : ∀ a b, a < b → b < l.length → eE l (ordO l a) ≤ sS l (ordO l b) := fun a b hab hb => by
    have s1 := step a (by omega)
    rcases Nat.lt_or_ge (a + 1) b with h3 | h3
    · have := ord_le l h3 hb; omega
    · obtain rfl : b = a + 1 := by omega
      exact s1
  refine most_one h1 (trip_se h) (fun x y hx hy hne => ?_)
  obtain ⟨a, ha, ea⟩ := ord_has l hx
  obtain ⟨b, hb, eb⟩ := ord_has l hy
  rcases Nat.lt_trichotomy a b with h3 | h3 | h3
  · have := all a b h3 hb; rw [ea, eb] at this; exact .inl this
  · subst h3; exact absurd (ea.symm.trans eb) hne
  · have := all b a h3 ha; rw [ea, eb] at this; exact .inr this
end Go.Proofs.Ytjcmgjjnkbhamaa
