/- Things on one chain: one behind the other; each has its chain's number. No program stands here. -/
import Derived.Test.YtjddlgmdbkaieaaTripC
namespace Go.Proofs.Ytjddlgmdbkaieaa.Plain
set_option linter.unusedVariables false
set_option linter.unusedSimpArgs false
theorem paint_val (nx : Nat → Int) (ct F : Nat) : ∀ (a : Int) (out : List Int) (k : Nat), k < out.length → (paintV nx ct F a out).getD k 0 = if k ∈ visV nx F a then (ct : Int) else out.getD k 0 := by
  induction F with
  | zero => intro a out k hk; simp [paintV, visV]
  | succ F ih =>
    intro a out k hk
    rw [paintV, visV]
    by_cases ha : a < 0
    · rw [if_pos ha, if_pos ha]; simp
    · rw [if_neg ha, if_neg ha, ih _ _ _ (by simpa using hk), getD_setP]
      by_cases h1 : k ∈ visV nx F (nx a.toNat)
      · rw [if_pos h1, if_pos (by simp [h1])]
      · rw [if_neg h1]
        by_cases h2 : a.toNat = k
        · rw [if_pos ⟨h2, by omega⟩, if_pos (by simp [h2])]
        · rw [if_neg (fun h => h2 h.1), if_neg]
          simp only [List.mem_cons, not_or]
          exact ⟨fun h => h2 h.symm, h1⟩
theorem vis_in {nx : Nat → Int} {n : Nat} (hx : ∀ x, x < n → nx x < 0 ∨ (0 ≤ nx x ∧ nx x < n)) (F : Nat) : ∀ (a : Int), a < n → ∀ x ∈ visV nx F a, x < n := by
  induction F with
  | zero => intro a _ x h; simp [visV] at h
  | succ F ih =>
    intro a ha x h
    rw [visV] at h
    by_cases hn : a < 0
    · rw [if_pos hn] at h; simp at h
    · rw [if_neg hn, List.mem_cons] at h
      rcases h with rfl | h
      · omega
      · exact ih _ (by rcases hx a.toNat (by omega) with h1 | h1 <;> omega) x h
theorem vis_prev {nx : Nat → Int} (F : Nat) : ∀ (a : Int) (x : Nat), x ∈ visV nx F a → (0 ≤ a ∧ x = a.toNat) ∨ ∃ y ∈ visV nx F a, nx y = (x : Int) := by
  induction F with
  | zero => intro a x h; simp [visV] at h
  | succ F ih =>
    intro a x h
    rw [visV] at h
    by_cases hn : a < 0
    · rw [if_pos hn] at h; simp at h
    · rw [if_neg hn, List.mem_cons] at h
      rw [visV, if_neg hn]
      rcases h with rfl | h
      · exact .inl ⟨by omega, rfl⟩
      · rcases ih _ _ h with ⟨h1, h2⟩ | ⟨y, h1, h2⟩
        · exact .inr ⟨a.toNat, by simp, by rw [h2]; omega⟩
        · exact .inr ⟨y, by simp [h1], h2⟩
theorem vis_after {nx : Nat → Int} {n : Nat} {E St : Nat → Int} (hx : ∀ x, x < n → nx x < 0 ∨ (0 ≤ nx x ∧ nx x < n)) (hse : ∀ x, x < n → St x < E x) (hf : ∀ x, x < n → 0 ≤ nx x → E x ≤ St (nx x).toNat) (F : Nat) :
    ∀ (a : Nat), a < n → ∀ y ∈ visV nx F (nx a), E a ≤ St y := by
  induction F with
  | zero => intro a _ y h; simp [visV] at h
  | succ F ih =>
    intro a ha y h
    rw [visV] at h
    by_cases hn : nx a < 0
    · rw [if_pos hn] at h; simp at h
    · rw [if_neg hn, List.mem_cons] at h
      have h0 := hf a ha (by omega)
      have hb : (nx a).toNat < n := by rcases hx a ha with h1 | h1 <;> omega
      rcases h with rfl | h
      · exact h0
      · have h1 := ih (nx a).toNat hb y h
        have h2 := hse _ hb
        omega
theorem vis_pair {nx : Nat → Int} {n : Nat} {E St : Nat → Int} (hx : ∀ x, x < n → nx x < 0 ∨ (0 ≤ nx x ∧ nx x < n)) (hse : ∀ x, x < n → St x < E x) (hf : ∀ x, x < n → 0 ≤ nx x → E x ≤ St (nx x).toNat) (F : Nat) :
    ∀ (a : Int), a < n → ∀ x ∈ visV nx F a, ∀ y ∈ visV nx F a, x ≠ y → E x ≤ St y ∨ E y ≤ St x := by
  induction F with
  | zero => intro a _ x h; simp [visV] at h
  | succ F ih =>
    intro a ha x h y h' hne
    rw [visV] at h h'
    by_cases hn : a < 0
    · rw [if_pos hn] at h; simp at h
    · rw [if_neg hn, List.mem_cons] at h h'
      have hb : a.toNat < n := by omega
      rcases h with rfl | h <;> rcases h' with rfl | h'
      · exact absurd rfl hne
      · exact .inl (vis_after hx hse hf F _ hb y h')
      · exact .inr (vis_after hx hse hf F _ hb x h)
      · exact ih _ (by rcases hx a.toNat hb with h1 | h1 <;> omega) x h y h' hne
/-- a match with its inverse, along which something grows -/
structure Lnk (po : List Int) (nx : Nat → Int) (n : Nat) (St : Nat → Int) : Prop where
  fwd : ∀ x, x < n → nx x < 0 ∨ (0 ≤ nx x ∧ nx x < n ∧ po.getD (nx x).toNat 0 = (x : Int) ∧ St x < St (nx x).toNat)
  bwd : ∀ k, k < n → po.getD k 0 < 0 ∨ (0 ≤ po.getD k 0 ∧ po.getD k 0 < n ∧ nx (po.getD k 0).toNat = (k : Int))
  low : ∀ x, 0 ≤ St x ∧ St x ≤ 10000
theorem lnk_one {po : List Int} {nx : Nat → Int} {n : Nat} {St : Nat → Int} (h : Lnk po nx n St) {F : Nat} {r r' : Nat} (hr : r < n) (hr' : r' < n) (f1 : po.getD r 0 < 0) (f2 : po.getD r' 0 < 0) (m : Nat) :
    ∀ x, (St x).toNat < m → x ∈ visV nx F r → x ∈ visV nx F r' → r = r' := by
  have hx : ∀ x, x < n → nx x < 0 ∨ (0 ≤ nx x ∧ nx x < n) := fun x hx => (h.fwd x hx).imp id (fun h => ⟨h.1, h.2.1⟩)
  induction m with
  | zero => intro x h; omega
  | succ m ih =>
    intro x hm h1 h2
    have step : ∀ r, r < n → ∀ y, y ∈ visV nx F r → nx y = (x : Int) → po.getD x 0 = (y : Int) ∧ St y < St x := fun r hr y hy e => by
      have hyn := vis_in hx F r (by omega) y hy
      rcases h.fwd y hyn with h3 | ⟨_, _, h3, h4⟩
      · omega
      · rw [e, Int.toNat_natCast] at h3 h4
        exact ⟨h3, h4⟩
    rcases vis_prev F r x h1 with ⟨_, e1⟩ | ⟨y, y1, y2⟩ <;> rcases vis_prev F r' x h2 with ⟨_, e2⟩ | ⟨z, z1, z2⟩
    · omega
    · have := (step r' hr' z z1 z2).1
      rw [e1, Int.toNat_natCast] at this
      omega
    · have := (step r hr y y1 y2).1
      rw [e2, Int.toNat_natCast] at this
      omega
    · have a1 := step r hr y y1 y2
      have a2 := step r' hr' z z1 z2
      have e : y = z := by omega
      subst e
      have := (h.low y).1
      exact ih y (by omega) y1 z1
/-- each is on a chain -/
theorem lnk_all {po : List Int} {nx : Nat → Int} {n : Nat} {St : Nat → Int} (h : Lnk po nx n St) (m : Nat) : ∀ k, k < n → (St k).toNat < m → ∃ r, r < n ∧ po.getD r 0 < 0 ∧ k ∈ visV nx 10001 r := by
  induction m with
  | zero => intro k _ h; omega
  | succ m ih =>
    intro k hk hm
    rcases h.bwd k hk with h1 | ⟨h3, h4, h5⟩
    · refine ⟨k, hk, h1, ?_⟩
      rw [visV, if_neg (by omega)]
      simp
    · rcases h.fwd (po.getD k 0).toNat (by omega) with h6 | ⟨_, _, _, h6⟩
      · rw [h5] at h6; omega
      · rw [h5, Int.toNat_natCast] at h6
        have := (h.low (po.getD k 0).toNat).1
        obtain ⟨r, r1, r2, r3⟩ := ih (po.getD k 0).toNat (by omega) (by omega)
        have hv := vis_next (nx := nx) (g := fun x => (St x).toNat) (n := n) (fun x => by have := h.low x; omega) (fun x hx => by
          rcases h.fwd x hx with h7 | ⟨h7, h8, _, h9⟩
          · exact .inl h7
          · have := (h.low x).1
            exact .inr ⟨h7, h8, by omega⟩) 10001 (r : Int) (by omega) (.inr (by omega)) _ r3 (by rw [h5]; omega)
        rw [h5, Int.toNat_natCast] at hv
        exact ⟨r, r1, r2, hv⟩
theorem veh_at {po : List Int} {nx : Nat → Int} {n : Nat} {St : Nat → Int} (h : Lnk po nx n St) (o : List Int) (ho : o.length = n) (i : Nat) (hi : i ≤ n) :
    ∀ r x, r < i → po.getD r 0 < 0 → x ∈ visV nx 10001 r → (vehV po nx 10001 o i).1.getD x 0 = ((vehV po nx 10001 o r).2 : Int) ∧ (vehV po nx 10001 o r).2 < (vehV po nx 10001 o i).2 := by
  have hx : ∀ x, x < n → nx x < 0 ∨ (0 ≤ nx x ∧ nx x < n) := fun x hx => (h.fwd x hx).imp id (fun h => ⟨h.1, h.2.1⟩)
  induction i with
  | zero => intro r x hr; omega
  | succ i ih =>
    intro r x hr hf hv
    have hxn := vis_in hx 10001 r (by omega) x hv
    rw [vehV]
    by_cases h0 : 0 ≤ po.getD i 0
    · rw [if_pos h0]
      have hne : r ≠ i := fun e => by subst e; omega
      exact ih (by omega) r x (by omega) hf hv
    · rw [if_neg h0]
      simp only
      rw [paint_val _ _ _ _ _ _ (by rw [veh_len, ho]; exact hxn)]
      by_cases e : r = i
      · subst e
        rw [if_pos hv]
        exact ⟨rfl, by omega⟩
      · rw [if_neg]
        · have := ih (by omega) r x (by omega) hf hv
          exact ⟨this.1, by omega⟩
        · intro hv2
          exact e (lnk_one h (by omega) (by omega) hf (by omega) _ x (Nat.lt_succ_self _) hv hv2)
theorem veh_mono (po : List Int) (nx : Nat → Int) (F : Nat) (o : List Int) {i j : Nat} (h : i < j) (hf : po.getD i 0 < 0) : (vehV po nx F o i).2 < (vehV po nx F o j).2 := by
  induction j with
  | zero => omega
  | succ j ih =>
    rw [vehV]
    by_cases h0 : 0 ≤ po.getD j 0
    · rw [if_pos h0]
      have : i ≠ j := fun e => by subst e; omega
      exact ih (by omega)
    · rw [if_neg h0]
      simp only
      by_cases e : i = j
      · subst e; omega
      · have := ih (by omega); omega
/-- things with one number are one behind the other -/
theorem veh_good {po : List Int} {nx : Nat → Int} {n : Nat} {St E : Nat → Int} (h : Lnk po nx n St) (hse : ∀ x, x < n → St x < E x) (hfit : ∀ x, x < n → 0 ≤ nx x → E x ≤ St (nx x).toNat) (o : List Int) (ho : o.length = n) :
    (∀ x, x < n → 0 ≤ (vehV po nx 10001 o n).1.getD x 0 ∧ (vehV po nx 10001 o n).1.getD x 0 < ((vehV po nx 10001 o n).2 : Int)) ∧
    ∀ x y, x < n → y < n → x ≠ y → (vehV po nx 10001 o n).1.getD x 0 = (vehV po nx 10001 o n).1.getD y 0 → E x ≤ St y ∨ E y ≤ St x := by
  have hx : ∀ x, x < n → nx x < 0 ∨ (0 ≤ nx x ∧ nx x < n) := fun x hx => (h.fwd x hx).imp id (fun h => ⟨h.1, h.2.1⟩)
  refine ⟨fun x hxn => ?_, fun x y hxn hyn hne e => ?_⟩
  · obtain ⟨r, r1, r2, r3⟩ := lnk_all h _ x hxn (Nat.lt_succ_self _)
    have := veh_at h o ho n (Nat.le_refl _) r x r1 r2 r3
    omega
  · obtain ⟨r, r1, r2, r3⟩ := lnk_all h _ x hxn (Nat.lt_succ_self _)
    obtain ⟨s, s1, s2, s3⟩ := lnk_all h _ y hyn (Nat.lt_succ_self _)
    have a1 := (veh_at h o ho n (Nat.le_refl _) r x r1 r2 r3).1
    have a2 := (veh_at h o ho n (Nat.le_refl _) s y s1 s2 s3).1
    have er : r = s := by
      rcases Nat.lt_trichotomy r s with h1 | h1 | h1
      · have := veh_mono po nx 10001 o h1 r2; omega
      · exact h1
      · have := veh_mono po nx 10001 o h1 s2; omega
    subst er
    exact vis_pair hx hse hfit 10001 r (by omega) x r3 y s3 hne
end Go.Proofs.Ytjddlgmdbkaieaa.Plain
