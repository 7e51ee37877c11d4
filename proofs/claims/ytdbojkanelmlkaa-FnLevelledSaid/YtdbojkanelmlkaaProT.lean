/- Tasks, their starts and slacks. No program stands here. -/
import Derived.Test.YtdbojkanelmlkaaPlain
import Derived.Test.YtdbojkanelmlkaaSortT
import Derived.Test.YtdbojkanelmlkaaVehT
namespace Go.Proofs.Ytdbojkanelmlkaa.Plain
set_option linter.unusedVariables false
set_option linter.unusedSimpArgs false
/-- a task: its time, its needs, those before it, and their lags -/
structure TK where
  a : Int
  b : Int
  bf : List Int
  lg : List Int
def tkAt (ts : List TK) (i : Nat) : TK := ts.getD i ⟨0, 0, [], []⟩
/-- the k-th one before it -/
def bN (t : TK) (k : Nat) : Nat := (t.bf.getD k 0).toNat
structure TaskOk (i : Nat) (t : TK) : Prop where
  a0 : 0 ≤ t.a
  a1 : t.a ≤ 100
  b0 : 0 ≤ t.b
  b1 : t.b ≤ 20
  ll : t.lg.length = t.bf.length
  p0 : ∀ k, k < t.bf.length → 0 ≤ t.bf.getD k 0 ∧ t.bf.getD k 0 < (i : Int)
  up : ∀ k, k + 1 < t.bf.length → t.bf.getD k 0 < t.bf.getD (k + 1) 0
  l0 : ∀ k, k < t.bf.length → -100 ≤ t.lg.getD k 0 ∧ t.lg.getD k 0 ≤ 100
theorem TaskOk.cast {i : Nat} {t : TK} (h : TaskOk i t) {k : Nat} (hk : k < t.bf.length) : t.bf.getD k 0 = (bN t k : Int) := by
  have := h.p0 k hk
  rw [bN]; omega
theorem TaskOk.lt {i : Nat} {t : TK} (h : TaskOk i t) {k : Nat} (hk : k < t.bf.length) : bN t k < i := by
  have := h.p0 k hk
  rw [bN]; omega
theorem TaskOk.mono {i : Nat} {t : TK} (h : TaskOk i t) (j : Nat) : ∀ k, j < k → k < t.bf.length → t.bf.getD j 0 < t.bf.getD k 0 := by
  intro k
  induction k with
  | zero => omega
  | succ k ih =>
    intro h1 h2
    have := h.up k h2
    by_cases e : j = k
    · subst e; exact this
    · have := ih (by omega) (by omega); omega
theorem TaskOk.inj {i : Nat} {t : TK} (h : TaskOk i t) {j k : Nat} (hj : j < t.bf.length) (hk : k < t.bf.length) (e : bN t j = bN t k) : j = k := by
  have a := h.cast hj
  have b := h.cast hk
  rcases Nat.lt_trichotomy j k with h1 | h1 | h1
  · have := h.mono j k h1 hk; omega
  · exact h1
  · have := h.mono k j h1 hj; omega
theorem TaskOk.short {i : Nat} {t : TK} (h : TaskOk i t) : t.bf.length ≤ i := by
  have key : ∀ k, k < t.bf.length → (k : Int) ≤ t.bf.getD k 0 := by
    intro k
    induction k with
    | zero => intro hk; have := h.p0 0 hk; omega
    | succ k ih => intro hk; have := ih (by omega); have := h.up k hk; omega
  rcases Nat.eq_zero_or_pos t.bf.length with e | e
  · omega
  · have := key (t.bf.length - 1) (by omega)
    have := h.p0 (t.bf.length - 1) (by omega)
    omega
def TasksOk (ts : List TK) (n : Nat) : Prop := ∀ i, i < n → TaskOk i (tkAt ts i)
/-- the least start of a task, by the first k before it -/
def leastF (ts : List TK) (st : Nat → Int) (t : TK) : Nat → Int
  | 0 => 0
  | k + 1 => max (leastF ts st t k) (st (bN t k) + (tkAt ts (bN t k)).a + t.lg.getD k 0)
theorem leastF_eq {ts : List TK} {st su : Nat → Int} {i : Nat} {t : TK} (ht : TaskOk i t) (h : ∀ j, j < i → st j = su j) (k : Nat) (hk : k ≤ t.bf.length) : leastF ts st t k = leastF ts su t k := by
  induction k with
  | zero => rfl
  | succ k ih => rw [leastF, leastF, ih (by omega), h _ (ht.lt (by omega))]
theorem leastF_le (ts : List TK) (st : Nat → Int) (t : TK) (k : Nat) : 0 ≤ leastF ts st t k ∧ ∀ j, j < k → st (bN t j) + (tkAt ts (bN t j)).a + t.lg.getD j 0 ≤ leastF ts st t k := by
  induction k with
  | zero => exact ⟨Int.le_refl _, fun j hj => by omega⟩
  | succ k ih =>
    refine ⟨by rw [leastF]; omega, fun j hj => ?_⟩
    rw [leastF]
    by_cases e : j = k
    · subst e; omega
    · have := ih.2 j (by omega); omega
theorem leastF_max {ts : List TK} {st : Nat → Int} {t : TK} {k : Nat} {M : Int} (h0 : 0 ≤ M) (h : ∀ j, j < k → st (bN t j) + (tkAt ts (bN t j)).a + t.lg.getD j 0 ≤ M) : leastF ts st t k ≤ M := by
  induction k with
  | zero => exact h0
  | succ k ih =>
    have := ih (fun j hj => h j (by omega))
    have := h k (by omega)
    rw [leastF]; omega
/-- the least starts, those of the first i tasks told -/
def earlyL (ts : List TK) (n : Nat) : Nat → List Int
  | 0 => List.replicate n 0
  | i + 1 => (earlyL ts n i).set i (leastF ts (fun j => (earlyL ts n i).getD j 0) (tkAt ts i) (tkAt ts i).bf.length)
theorem earlyL_len (ts : List TK) (n i : Nat) : (earlyL ts n i).length = n := by
  induction i with
  | zero => simp [earlyL]
  | succ i ih => simp [earlyL, ih]
theorem earlyL_keep (ts : List TK) (n : Nat) (i m : Nat) (hm : i ≤ m) (hn : m ≤ n) (j : Nat) (hj : j < i) : (earlyL ts n m).getD j 0 = (earlyL ts n i).getD j 0 := by
  induction m with
  | zero => omega
  | succ m ih =>
    by_cases e : i = m + 1
    · rw [e]
    · rw [earlyL, set_at _ _ _ _ (by rw [earlyL_len]; omega), if_neg (by omega), ih (by omega) (by omega)]
/-- the least start of a task -/
def eS (ts : List TK) (n j : Nat) : Int := (earlyL ts n n).getD j 0
theorem eS_is {ts : List TK} {n : Nat} (h : TasksOk ts n) {i : Nat} (hi : i < n) : eS ts n i = leastF ts (eS ts n) (tkAt ts i) (tkAt ts i).bf.length := by
  rw [eS, earlyL_keep ts n (i + 1) n (by omega) (Nat.le_refl _) i (by omega), earlyL, set_at _ _ _ _ (by rw [earlyL_len]; omega), if_pos rfl]
  exact leastF_eq (h i hi) (fun j hj => by rw [eS, earlyL_keep ts n i n (by omega) (Nat.le_refl _) j hj]) _ (Nat.le_refl _)
theorem early_bd {ts : List TK} {n : Nat} (h : TasksOk ts n) (i : Nat) (hi : i ≤ n) (j : Nat) : 0 ≤ (earlyL ts n i).getD j 0 ∧ (earlyL ts n i).getD j 0 ≤ 200 * (j : Int) := by
  induction i generalizing j with
  | zero =>
    rw [earlyL, List.getD_eq_getElem?_getD, List.getElem?_replicate]
    split <;> simp <;> omega
  | succ i ih =>
    rw [earlyL, set_at _ _ _ _ (by rw [earlyL_len]; omega)]
    split
    · rename_i e
      subst e
      refine ⟨(leastF_le ..).1, leastF_max (by omega) fun k hk => ?_⟩
      have a := (h j (by omega)).lt hk
      have b := ih (by omega) (bN (tkAt ts j) k)
      have c := h (bN (tkAt ts j) k) (by omega)
      have d := (h j (by omega)).l0 k hk
      have := c.a1
      omega
    · exact ih (by omega) j
theorem eS_bd {ts : List TK} {n : Nat} (h : TasksOk ts n) (j : Nat) : 0 ≤ eS ts n j ∧ eS ts n j ≤ 200 * (j : Int) := early_bd h n (Nat.le_refl _) j
/-- the greatest end of the first i tasks -/
def lastF (ts : List TK) (st : Nat → Int) : Nat → Int
  | 0 => 0
  | i + 1 => max (lastF ts st i) (st i + (tkAt ts i).a)
theorem lastF_le (ts : List TK) (st : Nat → Int) (n : Nat) : 0 ≤ lastF ts st n ∧ ∀ i, i < n → st i + (tkAt ts i).a ≤ lastF ts st n := by
  induction n with
  | zero => exact ⟨Int.le_refl _, fun i hi => by omega⟩
  | succ n ih =>
    refine ⟨by rw [lastF]; omega, fun i hi => ?_⟩
    rw [lastF]
    by_cases e : i = n
    · subst e; omega
    · have := ih.2 i (by omega); omega
theorem lastF_bd {ts : List TK} {st : Nat → Int} {n : Nat} {M : Int} (h0 : 0 ≤ M) (h : ∀ i, i < n → st i + (tkAt ts i).a ≤ M) : lastF ts st n ≤ M := by
  induction n with
  | zero => exact h0
  | succ n ih => have := ih (fun i hi => h i (by omega)); have := h n (by omega); rw [lastF]; omega
theorem lastF_at {ts : List TK} {st : Nat → Int} {n : Nat} (n1 : 1 ≤ n) (h : ∀ i, i < n → 0 ≤ st i + (tkAt ts i).a) : ∃ i, i < n ∧ st i + (tkAt ts i).a = lastF ts st n := by
  have key : ∀ n, lastF ts st n = 0 ∨ ∃ i, i < n ∧ st i + (tkAt ts i).a = lastF ts st n := by
    intro n
    induction n with
    | zero => exact .inl rfl
    | succ n ih =>
      rw [lastF]
      by_cases e : lastF ts st n ≤ st n + (tkAt ts n).a
      · exact .inr ⟨n, by omega, by omega⟩
      · rcases ih with ih | ⟨i, hi, e2⟩
        · exact .inl (by omega)
        · exact .inr ⟨i, by omega, by omega⟩
  rcases key n with e | e
  · have := h 0 (by omega)
    have := (lastF_le ts st n).2 0 (by omega)
    exact ⟨0, by omega, by omega⟩
  · exact e
/-- the greatest start of a task, by the first m behind it -/
def lateF (ts : List TK) (st : Nat → Int) (i : Nat) (e : Int) : Nat → Int
  | 0 => e - (tkAt ts i).a
  | m + 1 => if 0 ≤ firstI (tkAt ts (i + 1 + m)).bf (i : Int) (tkAt ts (i + 1 + m)).bf.length then min (lateF ts st i e m) (st (i + 1 + m) - (tkAt ts (i + 1 + m)).lg.getD (firstI (tkAt ts (i + 1 + m)).bf (i : Int) (tkAt ts (i + 1 + m)).bf.length).toNat 0 - (tkAt ts i).a) else lateF ts st i e m
theorem firstI_at {po : List Int} {x : Int} : ∀ {m : Nat}, 0 ≤ firstI po x m → (firstI po x m).toNat < m ∧ po.getD (firstI po x m).toNat 0 = x
  | 0, h => by simp [firstI] at h
  | m + 1, h => by
    rw [firstI] at h ⊢
    by_cases e : 0 ≤ firstI po x m
    · rw [if_pos e]
      have := firstI_at e
      exact ⟨by omega, this.2⟩
    · rw [if_neg e] at h ⊢
      by_cases e2 : po.getD m 0 = x
      · rw [if_pos e2]; simp; exact e2
      · rw [if_neg e2] at h; omega
theorem firstI_bN {i : Nat} {t : TK} (ht : TaskOk i t) {k : Nat} (hk : k < t.bf.length) : firstI t.bf (bN t k : Int) t.bf.length = (k : Int) :=
  first_found hk (ht.cast hk) fun j hj e => by
    have := ht.mono j k hj hk
    rw [ht.cast hk] at this
    omega
/-- a pair of a task and one before it -/
theorem lateF_le {ts : List TK} {n : Nat} (h : TasksOk ts n) (st : Nat → Int) (i : Nat) (e : Int) (m : Nat) (hm : i + m < n) : lateF ts st i e m ≤ e - (tkAt ts i).a ∧ ∀ j k, i < j → j ≤ i + m → k < (tkAt ts j).bf.length → bN (tkAt ts j) k = i → lateF ts st i e m ≤ st j - (tkAt ts j).lg.getD k 0 - (tkAt ts i).a := by
  induction m with
  | zero => exact ⟨Int.le_refl _, fun j k h1 h2 => by omega⟩
  | succ m ih =>
    obtain ⟨h1, h2⟩ := ih (by omega)
    rw [lateF]
    refine ⟨by split <;> omega, fun j k hj hj2 hk hb => ?_⟩
    by_cases ej : j = i + 1 + m
    · subst ej
      have hf := firstI_bN (h (i + 1 + m) (by omega)) hk
      rw [hb] at hf
      rw [if_pos (by omega), hf, Int.toNat_natCast]
      omega
    · have := h2 j k hj (by omega) hk hb
      split <;> omega
theorem lateF_ge {ts : List TK} {n : Nat} (h : TasksOk ts n) (st : Nat → Int) (i : Nat) (e : Int) (m : Nat) (hm : i + m < n) (M : Int) (h0 : M ≤ e - (tkAt ts i).a) (h1 : ∀ j k, i < j → j ≤ i + m → k < (tkAt ts j).bf.length → bN (tkAt ts j) k = i → M ≤ st j - (tkAt ts j).lg.getD k 0 - (tkAt ts i).a) : M ≤ lateF ts st i e m := by
  induction m with
  | zero => exact h0
  | succ m ih =>
    have a := ih (by omega) (fun j k a b => h1 j k a (by omega))
    rw [lateF]
    split
    · rename_i hf
      have hx := firstI_at hf
      have hb : bN (tkAt ts (i + 1 + m)) (firstI (tkAt ts (i + 1 + m)).bf (i : Int) (tkAt ts (i + 1 + m)).bf.length).toNat = i := by rw [bN, hx.2, Int.toNat_natCast]
      have := h1 (i + 1 + m) _ (by omega) (by omega) hx.1 hb
      omega
    · exact a
theorem lateF_eq {ts : List TK} {st su : Nat → Int} {i : Nat} {e : Int} (m : Nat) (h : ∀ j, i < j → j ≤ i + m → st j = su j) : lateF ts st i e m = lateF ts su i e m := by
  induction m with
  | zero => rfl
  | succ m ih => rw [lateF, lateF, ih (fun j a b => h j a (by omega)), h (i + 1 + m) (by omega) (by omega)]
/-- the greatest starts, those of the last m tasks told -/
def lateL (ts : List TK) (n : Nat) (e : Int) : Nat → List Int
  | 0 => List.replicate n 0
  | m + 1 => (lateL ts n e m).set (n - 1 - m) (lateF ts (fun j => (lateL ts n e m).getD j 0) (n - 1 - m) e m)
theorem lateL_len (ts : List TK) (n : Nat) (e : Int) (m : Nat) : (lateL ts n e m).length = n := by
  induction m with
  | zero => simp [lateL]
  | succ m ih => simp [lateL, ih]
theorem lateL_keep (ts : List TK) (n : Nat) (e : Int) (i m : Nat) (hm : i ≤ m) (hn : m ≤ n) (j : Nat) (hj : n - i ≤ j) : (lateL ts n e m).getD j 0 = (lateL ts n e i).getD j 0 := by
  induction m with
  | zero => rw [show i = 0 by omega]
  | succ m ih =>
    by_cases e2 : i = m + 1
    · rw [e2]
    · rw [lateL, set_at _ _ _ _ (by rw [lateL_len]; omega), if_neg (by omega), ih (by omega) (by omega)]
/-- the greatest start of a task -/
def lS (ts : List TK) (n : Nat) (e : Int) (j : Nat) : Int := (lateL ts n e n).getD j 0
theorem lS_is {ts : List TK} {n : Nat} {e : Int} {i : Nat} (hi : i < n) : lS ts n e i = lateF ts (lS ts n e) i e (n - 1 - i) := by
  rw [lS, lateL_keep ts n e (n - i) n (by omega) (Nat.le_refl _) i (by omega)]
  obtain ⟨m, hm⟩ : ∃ m, n - i = m + 1 := ⟨n - 1 - i, by omega⟩
  rw [hm, lateL, show n - 1 - m = i by omega, set_at _ _ _ _ (by rw [lateL_len]; omega), if_pos rfl, show n - 1 - i = m by omega]
  exact lateF_eq m fun j h1 h2 => by rw [lS, lateL_keep ts n e m n (by omega) (Nat.le_refl _) j (by omega)]
/-- the numbers stay small -/
theorem lateF_bd {ts : List TK} {n : Nat} (h : TasksOk ts n) {st : Nat → Int} {i : Nat} {e B : Int} (m : Nat) (hm : i + m < n) (he : 0 ≤ e) (hB : B ≤ 0) (hst : ∀ j, i < j → j ≤ i + m → B ≤ st j) : B - 200 ≤ lateF ts st i e m ∧ lateF ts st i e m ≤ e := by
  have a0 := (h i (by omega)).a0
  have a1 := (h i (by omega)).a1
  refine ⟨lateF_ge h st i e m hm _ (by omega) fun j k h1 h2 hk hb => ?_, by have := (lateF_le h st i e m hm).1; omega⟩
  have := hst j h1 h2
  have := (h j (by omega)).l0 k hk
  omega
theorem late_bd {ts : List TK} {n : Nat} (h : TasksOk ts n) {e : Int} (he : 0 ≤ e) (m : Nat) (hm : m ≤ n) (j : Nat) : -200 * (m : Int) ≤ (lateL ts n e m).getD j 0 ∧ (lateL ts n e m).getD j 0 ≤ e := by
  induction m generalizing j with
  | zero =>
    rw [lateL, List.getD_eq_getElem?_getD, List.getElem?_replicate]
    split <;> simp <;> omega
  | succ m ih =>
    rw [lateL, set_at _ _ _ _ (by rw [lateL_len]; omega)]
    split
    · have := lateF_bd h (st := fun j => (lateL ts n e m).getD j 0) (i := n - 1 - m) (e := e) (B := -200 * (m : Int)) m (by omega) he (by omega) (fun j _ _ => (ih (by omega) j).1)
      push_cast; omega
    · have := ih (by omega) j
      push_cast; omega
theorem late_ge {ts : List TK} {n : Nat} (h : TasksOk ts n) {e : Int} (he : ∀ i, i < n → eS ts n i + (tkAt ts i).a ≤ e) (i : Nat) (hi : i < n) : eS ts n i ≤ lS ts n e i := by
  obtain ⟨d, hd⟩ : ∃ d, d = n - 1 - i := ⟨_, rfl⟩
  induction d using Nat.strongRecOn generalizing i with
  | ind d ih =>
    rw [lS_is hi]
    refine lateF_ge h _ i e _ (by omega) _ (by have := he i hi; omega) fun j k h1 h2 hk hb => ?_
    have a := ih (n - 1 - j) (by omega) j (by omega) rfl
    have b := (leastF_le ts (eS ts n) (tkAt ts j) (tkAt ts j).bf.length).2 k hk
    rw [← eS_is h (by omega), hb] at b
    omega
/-- a task's greatest start leaves time for those behind it -/
theorem late_pair {ts : List TK} {n : Nat} (h : TasksOk ts n) {e : Int} {i k : Nat} (hi : i < n) (hk : k < (tkAt ts i).bf.length) : lS ts n e (bN (tkAt ts i) k) + (tkAt ts (bN (tkAt ts i) k)).a + (tkAt ts i).lg.getD k 0 ≤ lS ts n e i := by
  have hb := (h i hi).lt hk
  have := (lateF_le h (lS ts n e) (bN (tkAt ts i) k) e (n - 1 - bN (tkAt ts i) k) (by omega)).2 i k hb (by omega) hk rfl
  rw [← lS_is (by omega)] at this
  omega
theorem late_end {ts : List TK} {n : Nat} (h : TasksOk ts n) {e : Int} {i : Nat} (hi : i < n) : lS ts n e i + (tkAt ts i).a ≤ e := by
  have := (lateF_le h (lS ts n e) i e (n - 1 - i) (by omega)).1
  rw [← lS_is hi] at this
  omega
theorem late_least {ts : List TK} {n : Nat} (h : TasksOk ts n) {e : Int} (he : ∀ i, i < n → eS ts n i + (tkAt ts i).a ≤ e) {i : Nat} (hi : i < n) : leastF ts (lS ts n e) (tkAt ts i) (tkAt ts i).bf.length ≤ lS ts n e i :=
  leastF_max (by have := late_ge h he i hi; have := (eS_bd h i).1; omega) fun k hk => late_pair h hi hk
/-- free slack -/
theorem free_ge {ts : List TK} {n : Nat} (h : TasksOk ts n) {e : Int} (he : ∀ i, i < n → eS ts n i + (tkAt ts i).a ≤ e) {i : Nat} (hi : i < n) : eS ts n i ≤ lateF ts (eS ts n) i e (n - 1 - i) :=
  lateF_ge h _ i e _ (by omega) _ (by have := he i hi; omega) fun j k h1 h2 hk hb => by
    have b := (leastF_le ts (eS ts n) (tkAt ts j) (tkAt ts j).bf.length).2 k hk
    rw [← eS_is h (by omega), hb] at b
    omega
theorem free_le {ts : List TK} {n : Nat} (h : TasksOk ts n) {e : Int} (he : ∀ i, i < n → eS ts n i + (tkAt ts i).a ≤ e) {i : Nat} (hi : i < n) : lateF ts (eS ts n) i e (n - 1 - i) ≤ lS ts n e i := by
  rw [lS_is hi]
  obtain ⟨h1, h2⟩ := lateF_le h (eS ts n) i e (n - 1 - i) (by omega)
  refine lateF_ge h _ i e _ (by omega) _ h1 fun j k a b hk hb => ?_
  have := h2 j k a b hk hb
  have := late_ge h he j (by omega)
  omega
/-- the first one before a task that tells its start, among the first k; -1 if there is none -/
def tellF (ts : List TK) (st : Nat → Int) (i : Nat) : Nat → Int
  | 0 => -1
  | k + 1 => if tellF ts st i k < 0 ∧ st (bN (tkAt ts i) k) + (tkAt ts (bN (tkAt ts i) k)).a + (tkAt ts i).lg.getD k 0 = st i then (bN (tkAt ts i) k : Int) else tellF ts st i k
theorem tellF_is {ts : List TK} {st : Nat → Int} {i : Nat} (k : Nat) : tellF ts st i k = -1 ∨ ∃ j, j < k ∧ tellF ts st i k = (bN (tkAt ts i) j : Int) ∧ st (bN (tkAt ts i) j) + (tkAt ts (bN (tkAt ts i) j)).a + (tkAt ts i).lg.getD j 0 = st i := by
  induction k with
  | zero => exact .inl rfl
  | succ k ih =>
    rw [tellF]
    split
    · rename_i h; exact .inr ⟨k, by omega, rfl, h.2⟩
    · rcases ih with ih | ⟨j, hj, e1, e2⟩
      · exact .inl ih
      · exact .inr ⟨j, by omega, e1, e2⟩
/-- a task whose greatest start is its least one: the one that tells its start is such a one, too -/
theorem tell_slack {ts : List TK} {n : Nat} (h : TasksOk ts n) {e : Int} (he : ∀ i, i < n → eS ts n i + (tkAt ts i).a ≤ e) {i j : Nat} (hi : i < n) (hj : j < (tkAt ts i).bf.length) (hs : lS ts n e i = eS ts n i) (ht : eS ts n (bN (tkAt ts i) j) + (tkAt ts (bN (tkAt ts i) j)).a + (tkAt ts i).lg.getD j 0 = eS ts n i) : lS ts n e (bN (tkAt ts i) j) = eS ts n (bN (tkAt ts i) j) := by
  have a := late_pair h (e := e) hi hj
  have hb := (h i hi).lt hj
  have b := late_ge h he (bN (tkAt ts i) j) (by omega)
  omega
/-- how many ways lead to a task, by the first k before it -/
def waysF (ts : List TK) (ws : Nat → Int) (i : Nat) : Nat → Int
  | 0 => if (tkAt ts i).bf.length = 0 then 1 else 0
  | k + 1 => waysF ts ws i k + ws (bN (tkAt ts i) k)
def waysL (ts : List TK) (n : Nat) : Nat → List Int
  | 0 => List.replicate n 0
  | i + 1 => (waysL ts n i).set i (waysF ts (fun j => (waysL ts n i).getD j 0) i (tkAt ts i).bf.length)
theorem waysL_len (ts : List TK) (n i : Nat) : (waysL ts n i).length = n := by
  induction i with
  | zero => simp [waysL]
  | succ i ih => simp [waysL, ih]
theorem waysF_bd {ts : List TK} {n : Nat} (h : TasksOk ts n) {ws : Nat → Int} {i : Nat} (hi : i < n) (n9 : n ≤ 9) (M : Int) (hw : ∀ j, j < i → 0 ≤ ws j ∧ ws j ≤ M) (k : Nat) (hk : k ≤ (tkAt ts i).bf.length) : 0 ≤ waysF ts ws i k ∧ waysF ts ws i k ≤ 1 + M * (k : Int) := by
  induction k with
  | zero => rw [waysF]; split <;> simp
  | succ k ih =>
    have a := ih (by omega)
    have b := hw _ ((h i hi).lt (show k < (tkAt ts i).bf.length by omega))
    rw [waysF]; push_cast; rw [Int.mul_add]; omega
theorem ways_bd {ts : List TK} {n : Nat} (h : TasksOk ts n) (n9 : n ≤ 9) (i : Nat) (hi : i ≤ n) (j : Nat) : 0 ≤ (waysL ts n i).getD j 0 ∧ (waysL ts n i).getD j 0 ≤ 9 ^ j := by
  have p9 : ∀ j : Nat, (1 : Int) ≤ 9 ^ j := fun j => by
    induction j with
    | zero => decide
    | succ j ih => rw [Int.pow_succ]; omega
  have up9 : ∀ a b : Nat, a ≤ b → (9 : Int) ^ a ≤ 9 ^ b := fun a b hab => by
    induction b with
    | zero => rw [show a = 0 by omega]; exact Int.le_refl _
    | succ b ih =>
      by_cases e : a = b + 1
      · rw [e]; exact Int.le_refl _
      · have := ih (by omega); have := p9 b; rw [Int.pow_succ]; omega
  induction i generalizing j with
  | zero =>
    have := p9 j
    rw [waysL, List.getD_eq_getElem?_getD, List.getElem?_replicate]
    split <;> simp <;> omega
  | succ i ih =>
    rw [waysL, set_at _ _ _ _ (by rw [waysL_len]; omega)]
    split
    · rename_i e
      subst e
      rcases Nat.eq_zero_or_pos j with j0 | j0
      · subst j0
        have hs := (h 0 (by omega)).short
        rw [show (tkAt ts 0).bf.length = 0 by omega, waysF, if_pos (by omega)]
        decide
      · have hb := waysF_bd h (ws := fun k => (waysL ts n j).getD k 0) (i := j) (by omega) n9 (9 ^ (j - 1)) (fun k hk => by
          have a := ih (by omega) k
          have b := up9 k (j - 1) (by omega)
          exact ⟨a.1, by omega⟩) (tkAt ts j).bf.length (Nat.le_refl _)
        have hs := (h j (by omega)).short
        have p := p9 (j - 1)
        refine ⟨hb.1, Int.le_trans hb.2 ?_⟩
        have e1 : (9 : Int) ^ j = 9 ^ (j - 1) * 9 := by rw [← Int.pow_succ]; congr 1; omega
        have e2 : (9 : Int) ^ (j - 1) * ((tkAt ts j).bf.length : Int) ≤ 9 ^ (j - 1) * 8 := Int.mul_le_mul_of_nonneg_left (by omega) (by omega)
        omega
    · exact ih (by omega) j
/-- is a task before none of the first i? -/
def endB (ts : List TK) (n i : Nat) (j : Nat) : Bool := (List.range i).all fun x => (List.range (tkAt ts x).bf.length).all fun k => !(bN (tkAt ts x) k == j)
/-- the ways to the ends among the first i -/
def sumW (ws : Nat → Int) (en : Nat → Bool) : Nat → Int
  | 0 => 0
  | i + 1 => if en i then sumW ws en i + ws i else sumW ws en i
theorem sumW_bd {ws : Nat → Int} {en : Nat → Bool} {M : Int} (hM : 0 ≤ M) (n : Nat) (h : ∀ j, j < n → 0 ≤ ws j ∧ ws j ≤ M) : 0 ≤ sumW ws en n ∧ sumW ws en n ≤ M * (n : Int) := by
  induction n with
  | zero => simp [sumW]
  | succ n ih =>
    have a := ih (fun j hj => h j (by omega))
    have b := h n (by omega)
    rw [sumW]; push_cast; rw [Int.mul_add]; split <;> omega
end Go.Proofs.Ytdbojkanelmlkaa.Plain
