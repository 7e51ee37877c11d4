/- A hoist's period: it is no less than what the moves take, and one is found. No program stands here. -/
import Derived.Test.YtpnbjfhcnjdohaaPlain
import Derived.Test.YtpnbjfhcnjdohaaHoistM
namespace Go.Proofs.Ytpnbjfhcnjdohaa.Plain

/-- the sum of the first k -/
def sumG (l : List Int) : Nat → Int
  | 0 => 0
  | k + 1 => sumG l k + l.getD k 0
def sumM (M : Nat → Nat) : Nat → Nat
  | 0 => 0
  | k + 1 => sumM M k + M k
theorem count_set {l : List Bool} {r : Nat} (hr : r < l.length) (h : l.getD r false = false) : (l.set r true).count true = l.count true + 1 := by
  induction l generalizing r with
  | nil => simp at hr
  | cons b l ih =>
    cases r with
    | zero =>
      simp at h
      subst h
      simp
    | succ r =>
      have := ih (r := r) (by simpa using hr) (by simpa using h)
      simp only [List.set_cons_succ, List.count_cons, this]
      omega
theorem count_block {p s : Nat} (hp : 0 < p) {l0 : List Bool} (h0 : l0.length = p) (u : Nat) : ∀ {l : List Bool}, blockSt p s (some l0) u = some l → l.count true = l0.count true + u := by
  induction u with
  | zero => intro l h; simp only [blockSt, Option.some.injEq] at h; subst h; rfl
  | succ u ih =>
    intro l h
    simp only [blockSt] at h
    cases e : blockSt p s (some l0) u with
    | none => rw [e] at h; cases h
    | some l1 =>
      rw [e] at h
      simp only at h
      have hl := blockSt_len (b := some l0) (fun _ h => by cases h; exact h0) u e
      split at h
      · cases h
      · rename_i hg
        cases h
        rw [count_set (by rw [hl]; exact Nat.mod_lt _ hp) (by simpa using hg), ih e]
        omega
theorem count_all {p : Nat} {S M : Nat → Nat} (hp : 0 < p) (i : Nat) : ∀ {l : List Bool}, allSt p S M i = some l → l.count true = sumM M i := by
  induction i with
  | zero => intro l h; simp only [allSt, Option.some.injEq] at h; subst h; simp [sumM, List.count_replicate]
  | succ i ih =>
    intro l h
    simp only [allSt] at h
    cases e : allSt p S M i with
    | none => rw [e, blockSt_none] at h; cases h
    | some l0 =>
      rw [e] at h
      rw [count_block hp (allSt_len i e) (M i) h, ih e, sumM]
theorem firstH_ok {ok : Nat → Bool} {n q : Nat} (h1 : 1 ≤ q) (h2 : q ≤ n) (h : ok q = true) : ∃ p, firstH ok n = (p, true) ∧ 1 ≤ p ∧ p ≤ n ∧ ok p = true := by
  induction n with
  | zero => omega
  | succ n ih =>
    rw [firstH]
    by_cases hq : q ≤ n
    · obtain ⟨p, e, p1, p2, p3⟩ := ih hq
      rw [e]
      exact ⟨p, rfl, p1, by omega, p3⟩
    · obtain rfl : q = n + 1 := by omega
      cases e : firstH ok n with
      | mk r b =>
        cases b with
        | true =>
          refine ⟨r, rfl, ?_⟩
          have : ∀ m r, firstH ok m = (r, true) → 1 ≤ r ∧ r ≤ m ∧ ok r = true := by
            intro m
            induction m with
            | zero => intro r h; simp [firstH] at h
            | succ m ihm =>
              intro r h
              rw [firstH] at h
              cases e2 : firstH ok m with
              | mk r2 b2 =>
                rw [e2] at h
                cases b2 with
                | true => simp only [Prod.mk.injEq, and_true] at h; subst h; have := ihm _ e2; exact ⟨this.1, by omega, this.2.2⟩
                | false =>
                  simp only at h
                  split at h
                  · rename_i h3; simp only [Prod.mk.injEq, and_true] at h; subst h; exact ⟨by omega, by omega, h3⟩
                  · simp at h
          have := this n r e
          exact ⟨this.1, by omega, this.2.2⟩
        | false => simp only [h, if_true]; exact ⟨n + 1, rfl, by omega, by omega, h⟩
theorem stH_step (so mv : List Int) (i : Nat) : stH so mv i + mvH mv i ≤ stH so mv (i + 1) := by
  rw [stH, mvH]; omega
theorem stH_mono (so mv : List Int) {i k : Nat} (h : k < i) : stH so mv k + mvH mv k ≤ stH so mv i := by
  induction i with
  | zero => omega
  | succ i ih =>
    have := stH_step so mv i
    by_cases e : k = i
    · subst e; exact this
    · have := ih (by omega); omega
theorem stH_top {so mv : List Int} (h1 : ∀ i, so.getD i 0 ≤ 8) (h2 : ∀ i, mv.getD i 0 ≤ 3) (i : Nat) : stH so mv i ≤ 11 * i := by
  induction i with
  | zero => simp [stH]
  | succ i ih => have := h1 i; have := h2 i; rw [stH]; omega
theorem sumM_mv {mv : List Int} (h : ∀ i, i < mv.length → 0 ≤ mv.getD i 0) (k : Nat) (hk : k ≤ mv.length) : (sumM (mvH mv) k : Int) = sumG mv k := by
  induction k with
  | zero => rfl
  | succ k ih =>
    have := h k (by omega)
    have := ih (by omega)
    rw [sumM, sumG, mvH]
    push_cast
    omega
theorem getD_in {l : List Int} {a b : Int} (h : ∀ x ∈ l, a ≤ x ∧ x ≤ b) {i : Nat} (hi : i < l.length) : a ≤ l.getD i 0 ∧ l.getD i 0 ≤ b := by
  rw [List.getD_eq_getElem?_getD, List.getElem?_eq_getElem hi]
  exact h _ (List.getElem_mem hi)
theorem getD_top {l : List Int} {a b : Int} (hb : 0 ≤ b) (h : ∀ x ∈ l, a ≤ x ∧ x ≤ b) (i : Nat) : l.getD i 0 ≤ b := by
  by_cases hi : i < l.length
  · exact (getD_in h hi).2
  · rw [List.getD_eq_getElem?_getD, List.getElem?_eq_none (by omega)]; exact hb
theorem hoist_law {so mv : List Int} (s1 : 1 ≤ so.length) (s2 : so.length ≤ 4) (hs : ∀ x ∈ so, 0 ≤ x ∧ x ≤ 8) (hl : mv.length = so.length + 1) (hm : ∀ x ∈ mv, 1 ≤ x ∧ x ≤ 3) : ∃ P : Nat, MH so mv 400 = ((P : Int), true) ∧ sumG mv mv.length ≤ P := by
  have hc : condH so mv 400 = true := by
    simp only [condH, manyIn, Bool.and_eq_true, decide_eq_true_eq, List.all_eq_true, inR_iff]
    exact ⟨⟨by omega, by omega, fun x hx => by have := hs x hx; omega⟩, hl, fun x hx => by have := hm x hx; omega, by omega⟩
  have ht : ∀ i, stH so mv i ≤ 11 * i := stH_top (getD_top (by omega) hs) (getD_top (by omega) hm)
  have hM : ∀ i, i < so.length + 1 → mvH mv i ≤ 3 := fun i hi => by have := getD_in hm (i := i) (by omega); rw [mvH]; omega
  have hsv : serve 60 (stH so mv) (mvH mv) (so.length + 1) := by
    intro i hi k hk
    have h1 := stH_mono so mv hk
    have h2 := ht i
    have h3 := hM i hi
    have e : ((stH so mv i : Int) - stH so mv k) % (60 : Nat) = (stH so mv i : Int) - stH so mv k := Int.emod_eq_of_lt (by omega) (by omega)
    rw [e]
    omega
  obtain ⟨l, hal⟩ := marks_of_serve (p := 60) (by omega) hsv (fun i hi => by have := hM i hi; omega) (so.length + 1) (Nat.le_refl _)
  have h60 : okH so mv 60 = true := by
    simp only [okH, Bool.and_eq_true, List.all_eq_true, decide_eq_true_eq]
    exact ⟨fun x hx => by have := hs x hx; omega, by rw [hal]; rfl⟩
  obtain ⟨p, e, p1, p2, p3⟩ := firstH_ok (ok := okH so mv) (n := 400) (q := 60) (by omega) (by omega) h60
  refine ⟨p, ?_, ?_⟩
  · rw [MH, hc, if_pos rfl, show (400 : Int).toNat = 400 from rfl, e]
  · simp only [okH, Bool.and_eq_true] at p3
    cases ha : allSt p (stH so mv) (mvH mv) (so.length + 1) with
    | none => rw [ha] at p3; simp at p3
    | some l2 =>
      have c1 := count_all (by omega) _ ha
      have c2 : l2.count true ≤ l2.length := List.count_le_length
      rw [allSt_len _ ha, c1] at c2
      rw [← sumM_mv (fun i hi => by have := getD_in hm hi; omega) mv.length (Nat.le_refl _), hl]
      exact_mod_cast c2
end Go.Proofs.Ytpnbjfhcnjdohaa.Plain
