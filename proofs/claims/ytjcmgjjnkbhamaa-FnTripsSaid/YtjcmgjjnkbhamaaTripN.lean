/- The next thing on a chain. No program stands here. -/
import Derived.Test.YtjcmgjjnkbhamaaTripV
namespace Go.Proofs.Ytjcmgjjnkbhamaa.Plain
set_option linter.unusedVariables false
set_option linter.unusedSimpArgs false
/-- nothing of a chain lies between a thing and the one behind it -/
theorem vis_gap {nx : Nat → Int} {n : Nat} {E St : Nat → Int} (hx : ∀ x, x < n → nx x < 0 ∨ (0 ≤ nx x ∧ nx x < n)) (hse : ∀ x, x < n → St x < E x) (hf : ∀ x, x < n → 0 ≤ nx x → E x ≤ St (nx x).toNat) (F : Nat) :
    ∀ (a : Int), a < n → ∀ p ∈ visV nx F a, ∀ x ∈ visV nx F a, ∀ y : Nat, nx p = (y : Int) → St x ≤ St p ∨ St y ≤ St x := by
  induction F with
  | zero => intro a _ x h; simp [visV] at h
  | succ F ih =>
    intro a ha p hp x h y hy
    rw [visV] at hp h
    by_cases hn : a < 0
    · rw [if_pos hn] at h; simp at h
    · rw [if_neg hn, List.mem_cons] at hp h
      have hb : a.toNat < n := by omega
      have hnn : nx a.toNat < n := by rcases hx a.toNat hb with h1 | h1 <;> omega
      rcases hp with rfl | hp <;> rcases h with rfl | h
      · exact .inl (Int.le_refl _)
      · right
        rw [hy] at h
        cases F with
        | zero => simp [visV] at h
        | succ F =>
          rw [visV, if_neg (by omega), List.mem_cons, Int.toNat_natCast] at h
          rcases h with rfl | h
          · exact Int.le_refl _
          · have h1 := vis_after hx hse hf F y (by omega) x h
            have h2 := hse y (by omega)
            omega
      · have h1 := vis_after hx hse hf F a.toNat hb p hp
        have h2 := hse a.toNat hb
        left; omega
      · exact ih _ hnn p hp x h y hy
theorem veh_next {po : List Int} {nx : Nat → Int} {n : Nat} {St E : Nat → Int} (h : Lnk po nx n St) (hse : ∀ x, x < n → St x < E x) (hfit : ∀ x, x < n → 0 ≤ nx x → E x ≤ St (nx x).toNat) (o : List Int) (ho : o.length = n)
    {x y : Nat} (hxn : x < n) (hyn : y < n) (hv : (vehV po nx 10001 o n).1.getD x 0 = (vehV po nx 10001 o n).1.getD y 0) (hlt : St x < St y)
    (hno : ∀ z, z < n → (vehV po nx 10001 o n).1.getD z 0 = (vehV po nx 10001 o n).1.getD y 0 → St x < St z → ¬ St z < St y) : po.getD y 0 = (x : Int) := by
  have hx : ∀ x, x < n → nx x < 0 ∨ (0 ≤ nx x ∧ nx x < n) := fun x hx => (h.fwd x hx).imp id (fun h => ⟨h.1, h.2.1⟩)
  obtain ⟨r, r1, r2, r3⟩ := lnk_all h _ x hxn (Nat.lt_succ_self _)
  obtain ⟨s, s1, s2, s3⟩ := lnk_all h _ y hyn (Nat.lt_succ_self _)
  have a1 := (veh_at h o ho n (Nat.le_refl _) r x r1 r2 r3).1
  have a2 := (veh_at h o ho n (Nat.le_refl _) s y s1 s2 s3).1
  have er : r = s := by
    rcases Nat.lt_trichotomy r s with h1 | h1 | h1
    · have := veh_mono po nx 10001 o h1 r2; omega
    · exact h1
    · have := veh_mono po nx 10001 o h1 s2; omega
  subst er
  have hne : x ≠ y := fun e => by subst e; omega
  rcases vis_prev 10001 r y s3 with ⟨_, e1⟩ | ⟨p, p1, p2⟩
  · exfalso
    rw [Int.toNat_natCast] at e1
    subst e1
    -- y is the first of its chain
    have r4 := r3
    rw [visV, if_neg (by omega), List.mem_cons, Int.toNat_natCast] at r4
    rcases r4 with e | r4
    · exact hne e
    · have h1 := vis_after hx hse hfit 10000 y hyn x r4
      have h2 := hse y hyn
      omega
  · have hpn := vis_in hx 10001 r (by omega) p p1
    have hpo : po.getD y 0 = (p : Int) ∧ St p < St y := by
      rcases h.fwd p hpn with h3 | ⟨_, _, h3, h4⟩
      · omega
      · rw [p2, Int.toNat_natCast] at h3 h4
        exact ⟨h3, h4⟩
    by_cases e : p = x
    · rw [hpo.1, e]
    · exfalso
      rcases vis_gap hx hse hfit 10001 r (by omega) p p1 x r3 y p2 with h1 | h1
      · have a3 := (veh_at h o ho n (Nat.le_refl _) r p r1 r2 p1).1
        rcases vis_pair hx hse hfit 10001 r (by omega) p p1 x r3 e with h2 | h2
        · have := hse p hpn; omega
        · have := hse x hxn
          exact hno p hpn (by rw [a3, ← a2]) (by omega) hpo.2
      · omega
end Go.Proofs.Ytjcmgjjnkbhamaa.Plain
