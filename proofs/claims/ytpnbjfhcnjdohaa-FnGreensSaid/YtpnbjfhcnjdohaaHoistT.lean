/- HoistPeriod in plain numbers: marks on a ring of slots against pairs of moves. No program stands here. -/
import Derived.Test.YtpnbjfhcnjdohaaPlain
namespace Go.Proofs.Ytpnbjfhcnjdohaa.Plain

/-- so many slots of a ring from s on are marked, one by one; none: one was marked already -/
def blockSt (p s : Nat) (b : Option (List Bool)) : Nat → Option (List Bool)
  | 0 => b
  | u + 1 => match blockSt p s b u with
    | none => none
    | some l => if l.getD ((s + u) % p) false then none else some (l.set ((s + u) % p) true)
/-- the slots of the first i moves -/
def allSt (p : Nat) (S M : Nat → Nat) : Nat → Option (List Bool)
  | 0 => some (List.replicate p false)
  | i + 1 => blockSt p (S i) (allSt p S M i) (M i)
/-- no two of the first n moves meet -/
def serve (p : Nat) (S M : Nat → Nat) (n : Nat) : Prop := ∀ i, i < n → ∀ k, k < i → M k ≤ ((S i : Int) - S k) % p ∧ ((S i : Int) - S k) % p + M i ≤ p

theorem blockSt_len {p s : Nat} {b : Option (List Bool)} (hb : ∀ l, b = some l → l.length = p) (u : Nat) {l : List Bool} (h : blockSt p s b u = some l) : l.length = p := by
  induction u generalizing l with
  | zero => exact hb l h
  | succ u ih =>
    simp only [blockSt] at h
    cases e : blockSt p s b u with
    | none => rw [e] at h; cases h
    | some l0 =>
      rw [e] at h
      simp only at h
      split at h
      · cases h
      · cases h; simpa using ih e
theorem allSt_len {p : Nat} {S M : Nat → Nat} (i : Nat) {l : List Bool} (h : allSt p S M i = some l) : l.length = p := by
  induction i generalizing l with
  | zero => simp only [allSt, Option.some.injEq] at h; subst h; simp
  | succ i ih => exact blockSt_len (fun _ h => ih h) _ h
theorem blockSt_none (p s : Nat) (u : Nat) : blockSt p s none u = none := by
  induction u with
  | zero => rfl
  | succ u ih => simp only [blockSt, ih]
theorem blockSt_stop {p s : Nat} {b : Option (List Bool)} {u m : Nat} (h : blockSt p s b u = none) (hm : u ≤ m) : blockSt p s b m = none := by
  induction m with
  | zero => have : u = 0 := by omega
            subst this; exact h
  | succ m ih =>
    by_cases e : u = m + 1
    · subst e; exact h
    · simp only [blockSt, ih (by omega)]
theorem allSt_stop {p : Nat} {S M : Nat → Nat} {i n : Nat} (h : allSt p S M i = none) (hn : i ≤ n) : allSt p S M n = none := by
  induction n with
  | zero => have : i = 0 := by omega
            subst this; exact h
  | succ n ih =>
    by_cases e : i = n + 1
    · subst e; exact h
    · simp only [allSt, ih (by omega), blockSt_none]
/-- what is marked was marked by one of the moves -/
def Told (p : Nat) (S M : Nat → Nat) (i u : Nat) (l : List Bool) : Prop := ∀ r, l.getD r false = true → ∃ k v, (k < i ∧ v < M k ∨ k = i ∧ v < u) ∧ (S k + v) % p = r
/-- each slot of the moves is marked -/
def Marked (p : Nat) (S M : Nat → Nat) (i u : Nat) (l : List Bool) : Prop := ∀ k v, (k < i ∧ v < M k ∨ k = i ∧ v < u) → l.getD ((S k + v) % p) false = true
theorem getD_set {l : List Bool} {r r' : Nat} : (l.set r true).getD r' false = if r = r' ∧ r < l.length then true else l.getD r' false := by
  simp only [List.getD_eq_getElem?_getD, List.getElem?_set]
  by_cases h : r = r'
  · subst h
    by_cases h2 : r < l.length
    · simp [h2]
    · simp [h2]
  · simp [h]
theorem step_facts {p : Nat} {S M : Nat → Nat} (hp : 0 < p) {i u : Nat} {l : List Bool} (hl : l.length = p) (h1 : Told p S M i u l) (h2 : Marked p S M i u l) :
    Told p S M i (u + 1) (l.set ((S i + u) % p) true) ∧ Marked p S M i (u + 1) (l.set ((S i + u) % p) true) := by
  have hlt := Nat.mod_lt (S i + u) hp
  constructor
  · intro r hr
    rw [getD_set] at hr
    split at hr
    · rename_i e; exact ⟨i, u, .inr ⟨rfl, by omega⟩, e.1⟩
    · obtain ⟨k, v, h, e⟩ := h1 r hr
      exact ⟨k, v, by omega, e⟩
  · intro k v h
    rw [getD_set]
    by_cases e : k = i ∧ v = u
    · obtain ⟨rfl, rfl⟩ := e
      rw [if_pos ⟨rfl, by omega⟩]
    · split
      · rfl
      · exact h2 k v (by omega)
theorem block_facts {p : Nat} {S M : Nat → Nat} (hp : 0 < p) {i : Nat} {l0 : List Bool} (hl : l0.length = p) (h1 : Told p S M i 0 l0) (h2 : Marked p S M i 0 l0) (u : Nat) {l : List Bool} (h : blockSt p (S i) (some l0) u = some l) :
    l.length = p ∧ Told p S M i u l ∧ Marked p S M i u l := by
  induction u generalizing l with
  | zero => simp only [blockSt, Option.some.injEq] at h; subst h; exact ⟨hl, h1, h2⟩
  | succ u ih =>
    simp only [blockSt] at h
    cases e : blockSt p (S i) (some l0) u with
    | none => rw [e] at h; cases h
    | some l' =>
      rw [e] at h
      simp only at h
      split at h
      · cases h
      · cases h
        obtain ⟨k1, k2, k3⟩ := ih e
        exact ⟨by simpa using k1, step_facts hp k1 k2 k3⟩
theorem all_facts {p : Nat} {S M : Nat → Nat} (hp : 0 < p) (i : Nat) {l : List Bool} (h : allSt p S M i = some l) : l.length = p ∧ Told p S M i 0 l ∧ Marked p S M i 0 l := by
  induction i generalizing l with
  | zero =>
    simp only [allSt, Option.some.injEq] at h
    subst h
    refine ⟨by simp, fun r hr => ?_, fun k v hk => by omega⟩
    simp only [List.getD_eq_getElem?_getD, List.getElem?_replicate] at hr
    split at hr <;> simp at hr
  | succ i ih =>
    simp only [allSt] at h
    cases e : allSt p S M i with
    | none => rw [e, blockSt_none] at h; cases h
    | some l0 =>
      rw [e] at h
      obtain ⟨a1, a2, a3⟩ := ih e
      obtain ⟨b1, b2, b3⟩ := block_facts hp a1 a2 a3 (M i) h
      refine ⟨b1, fun r hr => ?_, fun k v hk => b3 k v ?_⟩
      · obtain ⟨k, v, hk, e⟩ := b2 r hr
        refine ⟨k, v, .inl ?_, e⟩
        rcases hk with hk | ⟨rfl, hk⟩
        · omega
        · exact ⟨by omega, hk⟩
      · rcases hk with ⟨h1, h2⟩ | ⟨h1, h2⟩
        · by_cases e : k = i
          · subst e; exact .inr ⟨rfl, h2⟩
          · exact .inl ⟨by omega, h2⟩
        · omega
theorem mod_same {p a b : Nat} (hp : 0 < p) (h : a % p = b % p) : ((a : Int) - b) % p = 0 := by
  have h1 : ((a : Int)) % p = (b : Int) % p := by exact_mod_cast congrArg Nat.cast h
  rw [Int.sub_emod, h1, Int.sub_self, Int.zero_emod]
/-- where no two moves meet, all slots can be marked -/
theorem marks_of_serve {p : Nat} {S M : Nat → Nat} {n : Nat} (hp : 0 < p) (h : serve p S M n) (hM : ∀ i, i < n → M i ≤ p) (i : Nat) (hi : i ≤ n) : ∃ l, allSt p S M i = some l := by
  induction i with
  | zero => exact ⟨_, rfl⟩
  | succ i ih =>
    obtain ⟨l0, e0⟩ := ih (by omega)
    obtain ⟨a1, a2, a3⟩ := all_facts hp i e0
    simp only [allSt, e0]
    have hm := hM i (by omega)
    have : ∀ u, u ≤ M i → ∃ l, blockSt p (S i) (some l0) u = some l := by
      intro u
      induction u with
      | zero => intro _; exact ⟨_, rfl⟩
      | succ u ihu =>
        intro hu
        obtain ⟨l, e⟩ := ihu (by omega)
        obtain ⟨b1, b2, b3⟩ := block_facts hp a1 a2 a3 u e
        simp only [blockSt, e]
        refine ⟨_, if_neg ?_⟩
        intro hc
        obtain ⟨k, v, hk, ev⟩ := b2 _ hc
        rcases hk with ⟨hk, hv⟩ | ⟨rfl, hv⟩
        · obtain ⟨c1, c2⟩ := h i (by omega) k hk
          have hz := mod_same hp ev.symm
          -- S i + u - (S k + v) is a multiple of p
          have e1 : (((S i + u : Nat) : Int) - ((S k + v : Nat) : Int)) % p = (((S i : Int) - S k) % p + (u - v)) % p := by
            rw [Int.emod_add_emod]; congr 1; omega
          rw [e1] at hz
          generalize ((S i : Int) - S k) % p = d at *
          have : (d + ((u : Int) - v)) % p = d + (u - v) := Int.emod_eq_of_lt (by omega) (by omega)
          omega
        · have hz := mod_same hp ev.symm
          have : (((S k + u : Nat) : Int) - ((S k + v : Nat) : Int)) % p = (u : Int) - v := by
            rw [show (((S k + u : Nat) : Int) - ((S k + v : Nat) : Int)) = (u : Int) - v by omega]
            exact Int.emod_eq_of_lt (by omega) (by omega)
          omega
    exact this _ (Nat.le_refl _)
/-- where all slots can be marked, no two moves meet -/
theorem serve_of_marks {p : Nat} {S M : Nat → Nat} {n : Nat} (hp : 0 < p) (hM : ∀ i, i < n → 1 ≤ M i) {l : List Bool} (h : allSt p S M n = some l) : serve p S M n := by
  intro i hi k hk
  have hi1 : allSt p S M (i + 1) ≠ none := fun e => by rw [allSt_stop e (by omega)] at h; cases h
  cases e0 : allSt p S M i with
  | none => rw [allSt_stop e0 (by omega)] at h; cases h
  | some l0 =>
    obtain ⟨a1, a2, a3⟩ := all_facts hp i e0
    -- a slot of move i that an earlier one holds: a stop
    have clash : ∀ u v, u < M i → v < M k → (S i + u) % p ≠ (S k + v) % p := by
      intro u v hu hv e
      cases eb : blockSt p (S i) (some l0) u with
      | none =>
        apply hi1
        rw [allSt, e0]
        exact blockSt_stop eb (by omega)
      | some lu =>
        obtain ⟨b1, b2, b3⟩ := block_facts hp a1 a2 a3 u eb
        have hb := b3 k v (.inl ⟨hk, hv⟩)
        rw [← e] at hb
        apply hi1
        rw [allSt, e0]
        refine blockSt_stop (u := u + 1) ?_ (by omega)
        simp only [blockSt, eb, hb, if_true]
    have hp0 : (p : Int) ≠ 0 := by omega
    have d1 := Int.emod_nonneg ((S i : Int) - S k) hp0
    have d2 := Int.emod_lt_of_pos ((S i : Int) - S k) (show (0 : Int) < p by omega)
    have hself := Int.emod_add_mul_ediv ((S i : Int) - S k) p
    have h1 := hM i hi
    have h2 := hM k (by omega)
    generalize ((S i : Int) - S k) / p = q at *
    obtain ⟨d, hd⟩ := Int.eq_ofNat_of_zero_le d1
    have hS : (S i : Int) = S k + d + p * q := by omega
    rw [hd]
    rw [hd] at d2
    clear hself hd d1
    have same : ∀ a b : Nat, ∀ z : Int, (a : Int) = b + p * z → a % p = b % p := by
      intro a b z h
      have : (a : Int) % p = (b : Int) % p := by rw [h, Int.add_mul_emod_self_left]
      exact_mod_cast this
    constructor
    · rcases Int.lt_or_le d (M k) with hc | hc
      · exfalso
        refine clash 0 d (by omega) (by omega) (same _ _ q ?_)
        omega
      · exact hc
    · rcases Int.lt_or_le p (d + M i) with hc | hc
      · exfalso
        refine clash (p - d) 0 (by omega) (by omega) (same _ _ (q + 1) ?_)
        rw [Int.mul_add]
        omega
      · exact hc
theorem serve_room {p : Nat} {S M : Nat → Nat} {n : Nat} (hn : 2 ≤ n) (hp : 0 < p) (h : serve p S M n) : ∀ i, i < n → M i ≤ p := by
  intro i hi
  have hp0 : (p : Int) ≠ 0 := by omega
  by_cases h0 : i = 0
  · subst h0
    obtain ⟨h1, _⟩ := h 1 (by omega) 0 (by omega)
    have := Int.emod_lt_of_pos ((S 1 : Int) - S 0) (show (0 : Int) < p by omega)
    omega
  · obtain ⟨_, h2⟩ := h i hi 0 (by omega)
    have := Int.emod_nonneg ((S i : Int) - S 0) hp0
    omega
theorem serve_iff {p : Nat} {S M : Nat → Nat} {n : Nat} (hn : 2 ≤ n) (hp : 0 < p) (hM : ∀ i, i < n → 1 ≤ M i) : serve p S M n ↔ (allSt p S M n).isSome = true := by
  constructor
  · intro h
    obtain ⟨l, e⟩ := marks_of_serve hp h (serve_room hn hp h) n (Nat.le_refl _)
    rw [e]; rfl
  · intro h
    obtain ⟨l, e⟩ := Option.isSome_iff_exists.1 h
    exact serve_of_marks hp hM e
end Go.Proofs.Ytpnbjfhcnjdohaa.Plain
