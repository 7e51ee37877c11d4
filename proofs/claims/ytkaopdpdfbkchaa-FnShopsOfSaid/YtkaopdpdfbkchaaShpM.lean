/- Runs of a shop by turns. No program stands here. -/
import Derived.Test.YtkaopdpdfbkchaaShpU
namespace Go.Proofs.Ytkaopdpdfbkchaa.Plain
set_option linter.unusedVariables false
set_option linter.unusedSimpArgs false
/-- where a run stands: the next machine of each job, when jobs and machines are free, the starts -/
structure RS where
  N : Nat → Nat
  J : Nat → Nat
  F : Nat → Nat
  a : Nat → Nat
/-- the step that a turn of a job gives, and when it begins -/
def RS.x (m : Nat) (S : RS) (j : Nat) : Nat := j * m + S.N j
def RS.at (m : Nat) (ro : Nat → Nat) (S : RS) (j : Nat) : Nat := max (S.J j) (S.F (ro (S.x m j)))
def stepR (m : Nat) (ro t : Nat → Nat) (S : RS) (j : Nat) : RS :=
  ⟨fun i => if i = j then S.N j + 1 else S.N i, fun i => if i = j then S.at m ro j + t (S.x m j) else S.J i, fun i => if i = ro (S.x m j) then S.at m ro j + t (S.x m j) else S.F i, fun i => if i = S.x m j then S.at m ro j else S.a i⟩
def startR : RS := ⟨fun _ => 0, fun _ => 0, fun _ => 0, fun _ => 0⟩
def runR (m : Nat) (ro t : Nat → Nat) (L : List Nat) : RS := L.foldl (stepR m ro t) startR
theorem runR_snoc (m : Nat) (ro t : Nat → Nat) (L : List Nat) (j : Nat) : runR m ro t (L ++ [j]) = stepR m ro t (runR m ro t L) j := by simp [runR]
theorem count_snoc (L : List Nat) (j i : Nat) : (L ++ [j]).count i = L.count i + if j = i then 1 else 0 := by
  rw [List.count_append, List.count_singleton]
  by_cases e : j = i
  · subst e; simp
  · rw [if_neg e, if_neg (by simpa using e)]
theorem snoc_ind {P : List Nat → Prop} (h0 : P []) (h1 : ∀ L j, P L → P (L ++ [j])) : ∀ L, P L := fun L => by
  have key : ∀ k, ∀ L : List Nat, L.length = k → P L := fun k => by
    induction k with
    | zero => intro L h; rw [List.length_eq_zero_iff.1 h]; exact h0
    | succ k ih =>
      intro L h
      obtain ⟨L', j, rfl⟩ : ∃ L' j, L = L' ++ [j] := ⟨L.dropLast, L.getLast (by intro e; rw [e] at h; cases h), (List.dropLast_concat_getLast _).symm⟩
      exact h1 _ _ (ih _ (by simpa using h))
  exact key _ L rfl
theorem runR_N (m : Nat) (ro t : Nat → Nat) (L : List Nat) (i : Nat) : (runR m ro t L).N i = L.count i := by
  revert L
  refine snoc_ind rfl fun L j ih => ?_
  rw [runR_snoc, count_snoc]
  show (if i = j then (runR m ro t L).N j + 1 else (runR m ro t L).N i) = _
  by_cases e : i = j
  · subst e; rw [if_pos rfl, if_pos rfl, ih]
  · rw [if_neg e, if_neg (fun h => e h.symm), ih]; rfl
/-- the steps that have been given -/
def layR (m : Nat) (N : Nat → Nat) (x : Nat) : Bool := decide (x % m < N (x / m))
theorem lay_step {m : Nat} {N : Nat → Nat} {j : Nat} (h : N j < m) : layR m (fun i => if i = j then N j + 1 else N i) = addP (layR m N) (j * m + N j) := by
  funext x
  unfold layR addP
  have m1 : 0 < m := by omega
  have hdm := Nat.div_add_mod x m
  show decide (x % m < (if x / m = j then N j + 1 else N (x / m))) = (decide (x % m < N (x / m)) || x == j * m + N j)
  by_cases e : x / m = j
  · rw [if_pos e]
    by_cases e2 : x = j * m + N j
    · have : x % m = N j := by rw [e2]; exact row_mod h
      rw [e, this, e2]
      simp
    · have hne : x % m ≠ N j := fun h2 => e2 (by rw [← h2, ← e, Nat.mul_comm]; exact hdm.symm)
      rw [e, show (x == j * m + N j) = false by simpa using e2, Bool.or_false]
      exact decide_eq_decide.2 ⟨fun h => by omega, fun h => by omega⟩
  · rw [if_neg e]
    have e2 : x ≠ j * m + N j := fun h2 => e (by rw [h2]; exact row_div h)
    rw [show (x == j * m + N j) = false by simpa using e2, Bool.or_false]
/-- the sum of the times of a machine, of the steps that are told -/
def macR (ro t : Nat → Nat) (P : Nat → Bool) (s k : Nat) : Nat := ldN (fun x => P x && ro x == k) t s
theorem macR_add {ro t : Nat → Nat} {s y : Nat} {P : Nat → Bool} (h : P y = false) (hy : y < s) (k : Nat) : macR ro t (addP P y) s k = macR ro t P s k + if ro y = k then t y else 0 := by
  unfold macR addP
  by_cases e : ro y = k
  · rw [ldN_add (P := fun x => P x && ro x == k) (i := y) (by show (P y && _) = false; rw [h]; rfl) (by show ((P y || y == y) && _) = true; simp [e]) (fun x hx => by show ((P x || x == y) && _) = (P x && _); rw [show (x == y) = false by simpa using hx, Bool.or_false]), if_pos hy, if_pos e]
  · rw [if_neg e, Nat.add_zero]
    refine ldN_same fun x _ => ?_
    show ((P x || x == y) && _) = (P x && _)
    by_cases e2 : x = y
    · subst e2; simp [h, e]
    · have e3 : (x == y) = false := by simpa using e2
      rw [e3, Bool.or_false]
theorem all_add {t : Nat → Nat} {s y : Nat} {P : Nat → Bool} (h : P y = false) (hy : y < s) : ldN (addP P y) t s = ldN P t s + t y := by
  rw [ldN_add (P := P) (i := y) h (by unfold addP; simp) (fun x hx => by unfold addP; simp [hx]), if_pos hy]
/-- what stands in a run -/
structure RI (m n s : Nat) (ro t : Nat → Nat) (S : RS) : Prop where
  eJ : ∀ x, x < s → layR m S.N x = true → S.a x + t x ≤ S.J (x / m)
  eF : ∀ x, x < s → layR m S.N x = true → S.a x + t x ≤ S.F (ro x)
  sq : ∀ x, x < s → layR m S.N x = true → 0 < x % m → S.a (x - 1) + t (x - 1) ≤ S.a x
  ap : ∀ x y, x < s → y < s → layR m S.N x = true → layR m S.N y = true → x ≠ y → ro x = ro y → S.a x + t x ≤ S.a y ∨ S.a y + t y ≤ S.a x
  sJ : ∀ j, jobS m t (layR m S.N) s j ≤ S.J j
  sF : ∀ k, macR ro t (layR m S.N) s k ≤ S.F k
  JF : ∀ j, S.J j = 0 ∨ ∃ k, k < m ∧ S.J j ≤ S.F k
  bJ : ∀ j, S.J j ≤ ldN (layR m S.N) t s
  bF : ∀ k, S.F k ≤ ldN (layR m S.N) t s
theorem lay_zero (m x : Nat) : layR m (fun _ => 0) x = false := by unfold layR; simp
theorem RI.start (m n s : Nat) (ro t : Nat → Nat) : RI m n s ro t startR := by
  have h0 : ∀ x, layR m startR.N x = false := fun x => lay_zero m x
  exact ⟨(fun x _ h => by rw [h0] at h; cases h), (fun x _ h => by rw [h0] at h; cases h), (fun x _ h => by rw [h0] at h; cases h), (fun x y _ _ h => by rw [h0] at h; cases h),
    (fun j => by unfold jobS; rw [ldN_zero fun x _ => by simp [h0]]; exact Nat.zero_le _), (fun k => by unfold macR; rw [ldN_zero fun x _ => by simp [h0]]; exact Nat.zero_le _), fun j => .inl rfl, fun j => Nat.zero_le _, fun k => Nat.zero_le _⟩
theorem RI.put {m n s j : Nat} {ro t : Nat → Nat} {S : RS} (h : RI m n s ro t S) (hs : s = n * m) (hj : j < n) (hN : S.N j < m) (hro : ∀ x, x < s → ro x < m) : RI m n s ro t (stepR m ro t S j) := by
  obtain ⟨y, hy⟩ : ∃ y, y = S.x m j := ⟨_, rfl⟩
  obtain ⟨b, hb⟩ : ∃ b, b = S.at m ro j := ⟨_, rfl⟩
  have hyE : y = j * m + S.N j := hy
  have hbJ : S.J j ≤ b := by rw [hb]; exact Nat.le_max_left _ _
  have hbF : S.F (ro y) ≤ b := by rw [hb, hy]; exact Nat.le_max_right _ _
  have hbb : b ≤ ldN (layR m S.N) t s := by
    rw [hb]
    exact Nat.max_le.2 ⟨h.bJ j, h.bF _⟩
  have hys : y < s := by rw [hyE, hs]; exact row_lt hj hN
  have hyj : y / m = j := by rw [hyE]; exact row_div hN
  have hyN : y % m = S.N j := by rw [hyE]; exact row_mod hN
  have hP : layR m S.N y = false := by unfold layR; rw [hyj, hyN]; simp
  have hl : layR m (stepR m ro t S j).N = addP (layR m S.N) y := by rw [hyE]; exact lay_step hN
  have hP' : ∀ x, x ≠ y → addP (layR m S.N) y x = layR m S.N x := fun x hx => by unfold addP; simp [hx]
  have EJ : (stepR m ro t S j).J = fun i => if i = j then b + t y else S.J i := by rw [hb, hy]; rfl
  have EF : (stepR m ro t S j).F = fun i => if i = ro y then b + t y else S.F i := by rw [hb, hy]; rfl
  have EA : (stepR m ro t S j).a = fun i => if i = y then b else S.a i := by rw [hb, hy]; rfl
  have hJle : ∀ i, S.J i ≤ (if i = j then b + t y else S.J i) := fun i => by
    by_cases e : i = j
    · subst e; rw [if_pos rfl]; omega
    · rw [if_neg e]; exact Nat.le_refl _
  have hFle : ∀ k, S.F k ≤ (if k = ro y then b + t y else S.F k) := fun k => by
    by_cases e : k = ro y
    · subst e; rw [if_pos rfl]; omega
    · rw [if_neg e]; exact Nat.le_refl _
  refine ⟨?_, ?_, ?_, ?_, ?_, ?_, ?_, ?_, ?_⟩ <;> (try rw [hl]) <;> (try rw [EJ]) <;> (try rw [EF]) <;> (try rw [EA])
  · intro x hx hp
    simp only
    by_cases e : x = y
    · subst e; rw [if_pos rfl, if_pos hyj]; exact Nat.le_refl _
    · rw [if_neg e]; rw [hP' x e] at hp
      exact Nat.le_trans (h.eJ x hx hp) (hJle _)
  · intro x hx hp
    simp only
    by_cases e : x = y
    · subst e; rw [if_pos rfl, if_pos rfl]; exact Nat.le_refl _
    · rw [if_neg e]; rw [hP' x e] at hp
      exact Nat.le_trans (h.eF x hx hp) (hFle _)
  · intro x hx hp h0
    simp only
    by_cases e : x = y
    · subst e
      rw [if_pos rfl, if_neg (by intro e; have := Nat.mod_le x m; omega)]
      have hq : layR m S.N (x - 1) = true := by
        unfold layR
        have hx1 : x - 1 = j * m + (S.N j - 1) := by omega
        rw [hx1, row_div (by omega), row_mod (by omega)]
        simp; omega
      have hd : (x - 1) / m = j := by
        have hx1 : x - 1 = j * m + (S.N j - 1) := by omega
        rw [hx1, row_div (by omega)]
      have := h.eJ (x - 1) (by omega) hq
      rw [hd] at this
      omega
    · rw [hP' x e] at hp
      by_cases e2 : x - 1 = y
      · exfalso
        have hxm : 0 < x := by
          rcases Nat.eq_zero_or_pos x with h9 | h9
          · rw [h9] at h0; simp at h0
          · exact h9
        have hx1 : x = j * m + (S.N j + 1) := by omega
        have hm1 : S.N j + 1 ≠ m := fun e => by
          rw [hx1, e, ← Nat.succ_mul, Nat.mul_mod_left] at h0; exact absurd h0 (Nat.lt_irrefl _)
        unfold layR at hp
        rw [hx1, row_div (by omega), row_mod (by omega)] at hp
        simp at hp
        omega
      · rw [if_neg e, if_neg e2]
        exact h.sq x hx hp h0
  · intro x z hx hz hpx hpz hne hr
    simp only
    by_cases e : x = y
    · subst e
      have ez : z ≠ x := fun h => hne h.symm
      rw [if_pos rfl, if_neg ez]
      rw [hP' z ez] at hpz
      refine .inr ?_
      have := h.eF z hz hpz
      rw [← hr] at this
      omega
    · rw [if_neg e]
      rw [hP' x e] at hpx
      by_cases ez : z = y
      · subst ez
        rw [if_pos rfl]
        refine .inl ?_
        have := h.eF x hx hpx
        rw [hr] at this
        omega
      · rw [if_neg ez]
        rw [hP' z ez] at hpz
        exact h.ap x z hx hz hpx hpz hne hr
  · intro i
    rw [jobS_add hP hys]
    have := h.sJ i
    simp only
    by_cases e : i = j
    · subst e; rw [if_pos hyj, if_pos rfl]; omega
    · rw [if_neg (by rw [hyj]; exact fun h => e h.symm), if_neg e]; omega
  · intro k
    rw [macR_add hP hys]
    have := h.sF k
    simp only
    by_cases e : ro y = k
    · subst e; rw [if_pos rfl, if_pos rfl]; omega
    · rw [if_neg e, if_neg (fun h => e h.symm)]; omega
  · intro i
    simp only
    by_cases e : i = j
    · exact .inr ⟨ro y, hro y hys, by rw [if_pos e, if_pos rfl]; exact Nat.le_refl _⟩
    · rw [if_neg e]
      rcases h.JF i with h1 | ⟨k, h1, h2⟩
      · exact .inl h1
      · exact .inr ⟨k, h1, Nat.le_trans h2 (hFle k)⟩
  · intro i
    rw [all_add hP hys]
    simp only
    have := h.bJ i
    split <;> omega
  · intro k
    rw [all_add hP hys]
    simp only
    have := h.bF k
    split <;> omega
/-- turns that can be given: jobs below n, each at most m times; all of them: each m times -/
def LegR (m n : Nat) (L : List Nat) : Prop := (∀ j, j ∈ L → j < n) ∧ ∀ j, L.count j ≤ m
def FullR (m n : Nat) (L : List Nat) : Prop := (∀ j, j ∈ L → j < n) ∧ ∀ j, j < n → L.count j = m
theorem FullR.leg {m n : Nat} {L : List Nat} (h : FullR m n L) : LegR m n L := ⟨h.1, fun j => by
  by_cases hj : j < n
  · exact Nat.le_of_eq (h.2 j hj)
  · rw [List.count_eq_zero.2 fun hm => hj (h.1 j hm)]; exact Nat.zero_le _⟩
theorem LegR.prefix {m n : Nat} {L E : List Nat} (h : LegR m n (L ++ E)) : LegR m n L := ⟨fun j hj => h.1 j (List.mem_append_left _ hj), fun j => by
  have := h.2 j
  rw [List.count_append] at this; omega⟩
theorem LegR.snoc {m n j : Nat} {L : List Nat} (h : LegR m n (L ++ [j])) : j < n ∧ L.count j < m := ⟨h.1 j (by simp), by
  have := h.2 j
  rw [count_snoc, if_pos rfl] at this; omega⟩
theorem LegR.add {m n j : Nat} {L : List Nat} (h : LegR m n L) (hj : j < n) (hc : L.count j < m) : LegR m n (L ++ [j]) := ⟨fun i hi => by
  rcases List.mem_append.1 hi with h1 | h1
  · exact h.1 i h1
  · rw [List.mem_singleton.1 h1]; exact hj, fun i => by
  rw [count_snoc]
  by_cases e : j = i
  · subst e; rw [if_pos rfl]; omega
  · rw [if_neg e]; exact h.2 i⟩
theorem RI.run {m n s : Nat} {ro t : Nat → Nat} (hs : s = n * m) (hro : ∀ x, x < s → ro x < m) : ∀ L, LegR m n L → RI m n s ro t (runR m ro t L) :=
  snoc_ind (fun _ => RI.start m n s ro t) fun L j ih h => by
    rw [runR_snoc]
    have h2 := h.snoc
    exact (ih h.prefix).put hs h2.1 (by rw [runR_N]; exact h2.2) hro
/-- how long a list of turns is -/
def cntT (L : List Nat) : Nat → Nat
  | 0 => 0
  | k + 1 => cntT L k + L.count k
theorem len_cnt {n : Nat} : ∀ L : List Nat, (∀ j, j ∈ L → j < n) → L.length = cntT L n := by
  have h0 : ∀ k, cntT [] k = 0 := fun k => by
    induction k with
    | zero => rfl
    | succ k ih => rw [cntT, ih]; rfl
  have h1 : ∀ (L : List Nat) j k, cntT (L ++ [j]) k = cntT L k + if j < k then 1 else 0 := fun L j k => by
    induction k with
    | zero => rfl
    | succ k ih =>
      rw [cntT, cntT, ih, count_snoc]
      by_cases e : j = k
      · subst e; rw [if_neg (Nat.lt_irrefl _), if_pos rfl, if_pos (Nat.lt_succ_self _)]; omega
      · rw [if_neg e]
        by_cases h : j < k
        · rw [if_pos h, if_pos (by omega)]; omega
        · rw [if_neg h, if_neg (by omega)]; omega
  refine snoc_ind (fun _ => (h0 n).symm) fun L j ih h => ?_
  rw [h1, if_pos (h j (by simp)), List.length_append, ih fun i hi => h i (by simp [hi])]
  rfl
theorem cnt_le {m : Nat} {L : List Nat} (h : ∀ j, L.count j ≤ m) : ∀ k, cntT L k ≤ k * m
  | 0 => Nat.zero_le _
  | k + 1 => by have := cnt_le h k; have := h k; rw [cntT, Nat.succ_mul]; omega
theorem cnt_full {m : Nat} {L : List Nat} (h : ∀ j, L.count j ≤ m) : ∀ k, cntT L k = k * m → ∀ j, j < k → L.count j = m
  | 0, _, j, hj => by omega
  | k + 1, he, j, hj => by
    have h1 := cnt_le h k
    have h2 := h k
    rw [cntT, Nat.succ_mul] at he
    by_cases e : j = k
    · subst e; omega
    · exact cnt_full h k (by omega) j (by omega)
theorem LegR.full {m n : Nat} {L : List Nat} (h : LegR m n L) (hl : L.length = n * m) : FullR m n L := ⟨h.1, cnt_full h.2 n (by rw [← len_cnt L h.1]; exact hl)⟩
theorem LegR.len {m n : Nat} {L : List Nat} (h : LegR m n L) : L.length ≤ n * m := by rw [len_cnt L h.1]; exact cnt_le h.2 n
theorem cnt_eq {m : Nat} {L : List Nat} : ∀ {n : Nat}, (∀ j, j < n → L.count j = m) → cntT L n = n * m
  | 0, _ => (Nat.zero_mul _).symm
  | n + 1, h => by rw [cntT, cnt_eq fun j hj => h j (by omega), h n (by omega), Nat.succ_mul]
theorem FullR.len {m n : Nat} {L : List Nat} (h : FullR m n L) : L.length = n * m := by rw [len_cnt L h.1]; exact cnt_eq h.2
/-- where a list of turns is not whole, a job can go on -/
theorem LegR.more {m n : Nat} {L : List Nat} (h : LegR m n L) (hl : L.length < n * m) : ∃ j, j < n ∧ L.count j < m := by
  refine Classical.byContradiction fun hc => ?_
  have h1 : ∀ j, j < n → L.count j = m := fun j hj => by
    have := h.2 j
    by_cases e : L.count j < m
    · exact absurd ⟨j, hj, e⟩ hc
    · omega
  have := cnt_eq h1
  rw [← len_cnt L h.1] at this
  omega
/-- the last end -/
def EndR (m : Nat) (F : Nat → Nat) (M : Nat) : Prop := (∀ k, k < m → F k ≤ M) ∧ ∃ k, k < m ∧ F k = M
theorem EndR.one {m : Nat} {F : Nat → Nat} {M M' : Nat} (h : EndR m F M) (h' : EndR m F M') : M = M' := by
  obtain ⟨h1, k, h2, h3⟩ := h
  obtain ⟨h1', k', h2', h3'⟩ := h'
  have := h1 k' h2'
  have := h1' k h2
  omega
theorem endR_ex (F : Nat → Nat) : ∀ m, 1 ≤ m → ∃ M, EndR m F M
  | 0, h => by omega
  | 1, _ => ⟨F 0, fun k hk => by rw [show k = 0 by omega]; exact Nat.le_refl _, 0, by omega, rfl⟩
  | m + 2, _ => by
    obtain ⟨M, h1, k0, h2, h3⟩ := endR_ex F (m + 1) (by omega)
    by_cases h : F (m + 1) ≤ M
    · exact ⟨M, fun k hk => by
        by_cases e : k = m + 1
        · subst e; exact h
        · exact h1 k (by omega), k0, by omega, h3⟩
    · exact ⟨F (m + 1), fun k hk => by
        by_cases e : k = m + 1
        · subst e; exact Nat.le_refl _
        · have := h1 k (by omega); omega, m + 1, by omega, rfl⟩
/-- a bound: the greatest sum of a job or of a machine -/
def LowR (m n s : Nat) (ro t : Nat → Nat) (B : Nat) : Prop := (∃ j, j < n ∧ B = jobS m t (fun _ => true) s j) ∨ ∃ k, k < m ∧ B = macR ro t (fun _ => true) s k
/-- a plan of a shop with routes -/
structure PlanR (m s : Nat) (ro t a : Nat → Nat) : Prop where
  sq : ∀ x, x < s → 0 < x % m → a (x - 1) + t (x - 1) ≤ a x
  ap : ∀ x y, x < s → y < x → ro x = ro y → a x + t x ≤ a y ∨ a y + t y ≤ a x
theorem full_lay {m n s : Nat} {L : List Nat} (hs : s = n * m) (h : FullR m n L) (ro t : Nat → Nat) (x : Nat) (hx : x < s) (m1 : 1 ≤ m) : layR m (runR m ro t L).N x = true := by
  unfold layR
  rw [runR_N, h.2 (x / m) (Nat.div_lt_of_lt_mul (by rw [Nat.mul_comm, ← hs]; exact hx))]
  exact decide_eq_true (Nat.mod_lt _ m1)
theorem run_done {m n s M B : Nat} {ro t : Nat → Nat} {L : List Nat} (hs : s = n * m) (hro : ∀ x, x < s → ro x < m) (h : FullR m n L) (m1 : 1 ≤ m) (hM : EndR m (runR m ro t L).F M) (hB : LowR m n s ro t B) :
    B ≤ M ∧ PlanR m s ro t (runR m ro t L).a ∧ (∀ x, x < s → (runR m ro t L).a x + t x ≤ M) := by
  have hI := RI.run (t := t) hs hro L h.leg
  have hall := fun x hx => full_lay hs h ro t x hx m1
  refine ⟨?_, ⟨fun x hx h0 => hI.sq x hx (hall x hx) h0, fun x y hx hy hr => hI.ap x y hx (by omega) (hall x hx) (hall y (by omega)) (by omega) hr⟩, fun x hx => Nat.le_trans (hI.eF x hx (hall x hx)) (hM.1 _ (hro x hx))⟩
  rcases hB with ⟨j, hj, e⟩ | ⟨k, hk, e⟩
  · have h1 := hI.sJ j
    rw [show jobS m t (layR m (runR m ro t L).N) s j = jobS m t (fun _ => true) s j from ldN_same fun x hx => by rw [hall x hx], ← e] at h1
    rcases hI.JF j with h2 | ⟨k, h2, h3⟩
    · omega
    · have := hM.1 k h2; omega
  · have h1 := hI.sF k
    rw [show macR ro t (layR m (runR m ro t L).N) s k = macR ro t (fun _ => true) s k from ldN_same fun x hx => by rw [hall x hx], ← e] at h1
    have := hM.1 k hk; omega
end Go.Proofs.Ytkaopdpdfbkchaa.Plain
