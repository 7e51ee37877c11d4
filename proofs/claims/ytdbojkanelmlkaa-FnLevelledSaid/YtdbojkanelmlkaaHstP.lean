/- Tasks made shorter: every vector of cuts, whether it is right, and what it costs. No program stands here. -/
import Derived.Test.YtdbojkanelmlkaaHstT
import Derived.Test.YtdbojkanelmlkaaLvlT
namespace Go.Proofs.Ytdbojkanelmlkaa.Plain
set_option linter.unusedVariables false
set_option linter.unusedSimpArgs false
theorem digsR_le (ls : List Nat) (t i : Nat) : (digsR ls t).getD i 0 ≤ ls.getD i 0 := by
  induction ls generalizing t i with
  | nil => simp [digsR]
  | cons l ls ih =>
    cases i with
    | zero =>
      simp only [digsR, List.getD_cons_zero]
      have := Nat.mod_lt t (show 0 < l + 1 by omega)
      omega
    | succ i => simp only [digsR, List.getD_cons_succ]; exact ih _ _
/-- the most that a task may be cut -/
def limN (ts : List TK) (most : List Int) (i : Nat) : Nat := (min (most.getD i 0) (tkAt ts i).a).toNat
/-- the limits, the last task first -/
def limR (ts : List TK) (most : List Int) (n : Nat) : List Nat := (List.range n).map fun i => limN ts most (n - 1 - i)
theorem limR_len (ts : List TK) (most : List Int) (n : Nat) : (limR ts most n).length = n := by simp [limR]
theorem limR_at (ts : List TK) (most : List Int) {n i : Nat} (h : i < n) : (limR ts most n).getD i 0 = limN ts most (n - 1 - i) := by
  rw [limR, List.getD_eq_getElem?_getD, List.getElem?_map, List.getElem?_range h]; rfl
/-- the cut of task i in vector t -/
def cutN (ts : List TK) (most : List Int) (n t i : Nat) : Nat := (digsR (limR ts most n) t).getD (n - 1 - i) 0
theorem cutN_le (ts : List TK) (most : List Int) {n : Nat} (t : Nat) {i : Nat} (h : i < n) : cutN ts most n t i ≤ limN ts most i := by
  have h1 := digsR_le (limR ts most n) t (n - 1 - i)
  rw [limR_at ts most (show n - 1 - i < n by omega), show n - 1 - (n - 1 - i) = i by omega] at h1
  exact h1
theorem digsR_zero (ls : List Nat) (i : Nat) : (digsR ls 0).getD i 0 = 0 := by
  induction ls generalizing i with
  | nil => simp [digsR]
  | cons l ls ih =>
    cases i with
    | zero => simp [digsR]
    | succ i => simp only [digsR, List.getD_cons_succ, Nat.zero_div]; exact ih _
theorem cutN_zero (ts : List TK) (most : List Int) (n i : Nat) : cutN ts most n 0 i = 0 := digsR_zero _ _
/-- tasks made shorter -/
def shortT (ts : List TK) (n : Nat) (v : Nat → Int) : List TK := (List.range n).map fun i => { tkAt ts i with a := (tkAt ts i).a - v i }
theorem shortT_at (ts : List TK) {n : Nat} (v : Nat → Int) {i : Nat} (h : i < n) : tkAt (shortT ts n v) i = { tkAt ts i with a := (tkAt ts i).a - v i } := by
  conv => lhs; rw [tkAt, shortT, List.getD_eq_getElem?_getD, List.getElem?_map, List.getElem?_range h]
  rfl
theorem shortT_ok {ts : List TK} {n : Nat} (ho : TasksOk ts n) {v : Nat → Int} (h : ∀ i, i < n → 0 ≤ v i ∧ v i ≤ (tkAt ts i).a) : TasksOk (shortT ts n v) n := fun i hi => by
  rw [shortT_at ts v hi]
  have h1 := ho i hi
  have h2 := h i hi
  have a0 := h1.a0
  have a1 := h1.a1
  exact ⟨by simp only; omega, by simp only; omega, h1.b0, h1.b1, h1.ll, h1.p0, h1.up, h1.l0⟩
theorem cut_ok {ts : List TK} {n : Nat} (ho : TasksOk ts n) {most : List Int} (hm : ∀ i, i < n → 0 ≤ most.getD i 0) (t : Nat) : ∀ i, i < n → 0 ≤ (cutN ts most n t i : Int) ∧ (cutN ts most n t i : Int) ≤ (tkAt ts i).a ∧ (cutN ts most n t i : Int) ≤ most.getD i 0 := fun i hi => by
  have h1 := cutN_le ts most t hi
  have h2 := (ho i hi).a0
  have h3 := hm i hi
  rw [limN] at h1
  omega
/-- whether the tasks of vector t end in time -/
def hOk (ts : List TK) (most : List Int) (n : Nat) (goal : Int) (t : Nat) : Bool :=
  decide (lastF (shortT ts n fun i => (cutN ts most n t i : Int)) (eS (shortT ts n fun i => (cutN ts most n t i : Int)) n) n ≤ goal)
/-- what vector t costs, by the first k tasks -/
def hCo (ts : List TK) (most costs : List Int) (n t : Nat) : Nat → Int
  | 0 => 0
  | k + 1 => hCo ts most costs n t k + (cutN ts most n t k : Int) * costs.getD k 0
/-- the vector that is taken -/
def hIx (ts : List TK) (most costs : List Int) (n : Nat) (goal : Int) : Option Nat := hB (hOk ts most n goal) (fun t => hCo ts most costs n t n) (prodR (limR ts most n))
theorem leastF_same {ts us : List TK} {st : Nat → Int} {t : TK} {n : Nat} (h : ∀ i, i < n → tkAt ts i = tkAt us i) : ∀ k, (∀ j, j < k → bN t j < n) → leastF ts st t k = leastF us st t k
  | 0, _ => rfl
  | k + 1, hb => by rw [leastF, leastF, leastF_same h k fun j hj => hb j (by omega), h _ (hb k (by omega))]
theorem earlyL_same {ts us : List TK} {n : Nat} (ho : TasksOk ts n) (h : ∀ i, i < n → tkAt ts i = tkAt us i) : ∀ m, m ≤ n → earlyL ts n m = earlyL us n m
  | 0, _ => rfl
  | m + 1, hm => by
    rw [earlyL, earlyL, earlyL_same ho h m (by omega), ← h m (by omega)]
    rw [leastF_same h _ fun j hj => by have := (ho m (by omega)).lt hj; omega]
theorem lastF_same {ts us : List TK} {st : Nat → Int} {n : Nat} (h : ∀ i, i < n → tkAt ts i = tkAt us i) : ∀ m, m ≤ n → lastF ts st m = lastF us st m
  | 0, _ => rfl
  | m + 1, hm => by rw [lastF, lastF, lastF_same h m (by omega), h m (by omega)]
/-- nothing cut: the end as it is -/
theorem hOk_zero {ts : List TK} {n : Nat} (ho : TasksOk ts n) (most : List Int) (goal : Int) : hOk ts most n goal 0 = decide (lastF ts (eS ts n) n ≤ goal) := by
  have h : ∀ i, i < n → tkAt ts i = tkAt (shortT ts n fun i => (cutN ts most n 0 i : Int)) i := fun i hi => by
    rw [shortT_at ts _ hi, cutN_zero]
    simp
  have e : eS (shortT ts n fun i => (cutN ts most n 0 i : Int)) n = eS ts n := funext fun j => by
    rw [eS, eS, ← earlyL_same ho h n (Nat.le_refl _)]
  rw [hOk, e, ← lastF_same h n (Nat.le_refl _)]
/-- no vector is right: the goal lies ahead of the end -/
theorem hIx_none {ts : List TK} {n : Nat} (ho : TasksOk ts n) {most costs : List Int} {goal : Int} (h : hIx ts most costs n goal = none) : goal < lastF ts (eS ts n) n := by
  have h1 := hB_none h 0 (prodR_pos _)
  rw [hOk_zero ho] at h1
  have h2 := of_decide_eq_false h1
  omega
theorem hIx_some {ts : List TK} {n : Nat} {most costs : List Int} {goal : Int} {t : Nat} (h : hIx ts most costs n goal = some t) : lastF (shortT ts n fun i => (cutN ts most n t i : Int)) (eS (shortT ts n fun i => (cutN ts most n t i : Int)) n) n ≤ goal := by
  have h1 := (hB_some h).2
  exact of_decide_eq_true h1
/-- the first digit that can grow -/
theorem incR_at : ∀ (ls ds : List Nat) (k : Nat), ls.length = ds.length → k < ds.length → (∀ i, i < k → ls.getD i 0 < ds.getD i 0 + 1) → ds.getD k 0 + 1 ≤ ls.getD k 0 → (incR ls ds).2 = true ∧ ∀ j, (incR ls ds).1.getD j 0 = if j < k then 0 else if j = k then ds.getD k 0 + 1 else ds.getD j 0
  | [], [], k, _, hk, _, _ => by simp at hk
  | [], d :: ds, k, hl, _, _, _ => by simp at hl
  | l :: ls, [], k, hl, _, _, _ => by simp at hl
  | l :: ls, d :: ds, 0, hl, hk, hc, hg => by
    simp only [List.getD_cons_zero] at hg
    rw [incR, if_pos hg]
    refine ⟨rfl, fun j => ?_⟩
    cases j with
    | zero => simp
    | succ j => simp
  | l :: ls, d :: ds, k + 1, hl, hk, hc, hg => by
    have h0 := hc 0 (by omega)
    simp only [List.getD_cons_zero] at h0
    rw [incR, if_neg (by omega)]
    have ih := incR_at ls ds k (by simpa using hl) (by simpa using hk) (fun i hi => by have := hc (i + 1) (by omega); simpa only [List.getD_cons_succ] using this) (by simpa only [List.getD_cons_succ] using hg)
    refine ⟨ih.1, fun j => ?_⟩
    cases j with
    | zero => simp
    | succ j =>
      simp only [List.getD_cons_succ]
      rw [ih.2 j]
      by_cases h1 : j < k
      · rw [if_pos h1, if_pos (by omega)]
      · by_cases h2 : j = k
        · rw [if_neg h1, if_pos h2, if_neg (by omega), if_pos (by omega)]
        · rw [if_neg h1, if_neg h2, if_neg (by omega), if_neg (by omega)]
theorem incR_none : ∀ (ls ds : List Nat), ls.length = ds.length → (∀ i, i < ds.length → ls.getD i 0 < ds.getD i 0 + 1) → (incR ls ds).2 = false
  | [], [], _, _ => rfl
  | [], d :: ds, hl, _ => by simp at hl
  | l :: ls, [], hl, _ => by simp at hl
  | l :: ls, d :: ds, hl, hc => by
    have h0 := hc 0 (by simp)
    simp only [List.getD_cons_zero] at h0
    rw [incR, if_neg (by omega)]
    exact incR_none ls ds (by simpa using hl) fun i hi => by have := hc (i + 1) (by simpa using hi); simpa only [List.getD_cons_succ] using this
/-- the next vector: the last task whose cut can grow -/
theorem cut_next {ts : List TK} {most : List Int} {n t k : Nat} (ht : t < prodR (limR ts most n)) (hk : k < n) (hc : ∀ i, i < k → limN ts most (n - 1 - i) < cutN ts most n t (n - 1 - i) + 1) (hg : cutN ts most n t (n - 1 - k) + 1 ≤ limN ts most (n - 1 - k)) :
    t + 1 < prodR (limR ts most n) ∧ ∀ i, i < n → cutN ts most n (t + 1) i = if n - 1 - k < i then 0 else if i = n - 1 - k then cutN ts most n t i + 1 else cutN ts most n t i := by
  have e : ∀ m, m < n → cutN ts most n t (n - 1 - m) = (digsR (limR ts most n) t).getD m 0 := fun m hm => by rw [cutN, show n - 1 - (n - 1 - m) = m by omega]
  have hl : (limR ts most n).length = (digsR (limR ts most n) t).length := by rw [digsR_len]
  have hd : (digsR (limR ts most n) t).length = n := by rw [digsR_len, limR_len]
  have h1 := incR_at (limR ts most n) (digsR (limR ts most n) t) k hl (by omega) (fun i hi => by rw [limR_at ts most (by omega), ← e i (by omega)]; exact hc i hi) (by rw [limR_at ts most hk, ← e k hk]; exact hg)
  have h2 : t + 1 < prodR (limR ts most n) := by
    rcases Nat.lt_or_ge (t + 1) (prodR (limR ts most n)) with h | h
    · exact h
    · have := incR_last (limR ts most n) t (by omega)
      rw [h1.1] at this; cases this
  refine ⟨h2, fun i hi => ?_⟩
  have h3 := incR_next (limR ts most n) t h2
  have h4 := h1.2 (n - 1 - i)
  rw [h3] at h4
  simp only at h4
  rw [cutN, h4]
  by_cases h5 : n - 1 - k < i
  · rw [if_pos h5, if_pos (by omega)]
  · rw [if_neg h5, if_neg (by omega)]
    by_cases h6 : i = n - 1 - k
    · rw [if_pos h6, if_pos (by omega), cutN, show n - 1 - i = k by omega]
    · rw [if_neg h6, if_neg (by omega), cutN]
theorem cut_last {ts : List TK} {most : List Int} {n t : Nat} (ht : t < prodR (limR ts most n)) (hc : ∀ i, i < n → limN ts most (n - 1 - i) < cutN ts most n t (n - 1 - i) + 1) : t + 1 = prodR (limR ts most n) := by
  have e : ∀ m, m < n → cutN ts most n t (n - 1 - m) = (digsR (limR ts most n) t).getD m 0 := fun m hm => by rw [cutN, show n - 1 - (n - 1 - m) = m by omega]
  have hd : (digsR (limR ts most n) t).length = n := by rw [digsR_len, limR_len]
  have h1 := incR_none (limR ts most n) (digsR (limR ts most n) t) (by rw [digsR_len]) (fun i hi => by rw [limR_at ts most (by omega), ← e i (by omega)]; exact hc i (by omega))
  rcases Nat.lt_or_ge (t + 1) (prodR (limR ts most n)) with h | h
  · rw [incR_next _ _ h] at h1; cases h1
  · omega
/-- low digits and high digits -/
theorem digsR_app (la lb : List Nat) (r q : Nat) (hr : r < prodR la) : digsR (la ++ lb) (r + prodR la * q) = digsR la r ++ digsR lb q := by
  induction la generalizing r with
  | nil =>
    simp only [prodR] at hr
    obtain rfl : r = 0 := by omega
    simp [digsR, prodR]
  | cons k la ih =>
    have hk : 0 < k + 1 := Nat.succ_pos k
    rw [List.cons_append, digsR, digsR, List.cons_append]
    rw [prodR, Nat.mul_assoc, Nat.add_mul_mod_self_left, Nat.add_mul_div_left _ _ hk, ih]
    rw [prodR] at hr
    exact Nat.div_lt_of_lt_mul hr
/-- how many vectors there are behind the first i tasks -/
def restP (ts : List TK) (most : List Int) (n i : Nat) : Nat := prodR ((limR ts most n).take (n - i))
/-- the cuts of the first i tasks, as a number -/
def preQ (ts : List TK) (most : List Int) (n i q j : Nat) : Nat := (digsR ((limR ts most n).drop (n - i)) q).getD (i - 1 - j) 0
theorem cut_pre (ts : List TK) (most : List Int) {n i q r j : Nat} (hi : i ≤ n) (hr : r < restP ts most n i) (hj : j < i) : cutN ts most n (r + restP ts most n i * q) j = preQ ts most n i q j := by
  have hl := limR_len ts most n
  have e : limR ts most n = (limR ts most n).take (n - i) ++ (limR ts most n).drop (n - i) := (List.take_append_drop _ _).symm
  have h1 := digsR_app ((limR ts most n).take (n - i)) ((limR ts most n).drop (n - i)) r q hr
  rw [← e] at h1
  rw [cutN, restP, h1, preQ, List.getD_eq_getElem?_getD, List.getElem?_append_right (by rw [digsR_len, List.length_take]; omega), digsR_len, List.length_take, hl, show n - 1 - j - min (n - i) n = i - 1 - j by omega, ← List.getD_eq_getElem?_getD]
theorem restP_succ (ts : List TK) (most : List Int) {n i : Nat} (hi : i < n) : restP ts most n i = restP ts most n (i + 1) * (limN ts most i + 1) := by
  have hl := limR_len ts most n
  have key : ∀ (ls : List Nat) (l : Nat), prodR (ls ++ [l]) = prodR ls * (l + 1) := fun ls l => by
    induction ls with
    | nil => simp [prodR]
    | cons k ls ih => rw [List.cons_append, prodR, prodR, ih, Nat.mul_assoc]
  rw [restP, restP, show n - i = (n - (i + 1)) + 1 by omega, List.take_add_one, List.getElem?_eq_getElem (by omega)]
  simp only [Option.toList]
  rw [key]
  congr 2
  have h1 := limR_at ts most (n := n) (i := n - (i + 1)) (by omega)
  rw [List.getD_eq_getElem?_getD, List.getElem?_eq_getElem (by omega), Option.getD_some, show n - 1 - (n - (i + 1)) = i by omega] at h1
  exact h1
theorem restP_all (ts : List TK) (most : List Int) (n : Nat) : restP ts most n 0 = prodR (limR ts most n) := by
  rw [restP, List.take_of_length_le (by rw [limR_len]; omega)]
theorem restP_end (ts : List TK) (most : List Int) (n : Nat) : restP ts most n n = 1 := by
  rw [restP, Nat.sub_self, List.take_zero]; rfl
/-- one task more is cut -/
theorem pre_child (ts : List TK) (most : List Int) {n i q d : Nat} (hi : i < n) (hd : d ≤ limN ts most i) : preQ ts most n (i + 1) (d + (limN ts most i + 1) * q) i = d ∧ ∀ j, j < i → preQ ts most n (i + 1) (d + (limN ts most i + 1) * q) j = preQ ts most n i q j := by
  have hl := limR_len ts most n
  have h1 := limR_at ts most (n := n) (i := n - (i + 1)) (by omega)
  rw [List.getD_eq_getElem?_getD, List.getElem?_eq_getElem (by omega), Option.getD_some, show n - 1 - (n - (i + 1)) = i by omega] at h1
  have e : (limR ts most n).drop (n - (i + 1)) = limN ts most i :: (limR ts most n).drop (n - i) := by
    rw [List.drop_eq_getElem_cons (show n - (i + 1) < (limR ts most n).length by omega), h1, show n - (i + 1) + 1 = n - i by omega]
  have e2 : digsR (limN ts most i :: (limR ts most n).drop (n - i)) (d + (limN ts most i + 1) * q) = d :: digsR ((limR ts most n).drop (n - i)) q := by
    rw [digsR, Nat.add_mul_mod_self_left, Nat.mod_eq_of_lt (by omega), Nat.add_mul_div_left _ _ (Nat.succ_pos _), Nat.div_eq_of_lt (by omega), Nat.zero_add]
  refine ⟨?_, fun j hj => ?_⟩
  · rw [preQ, e, e2, show i + 1 - 1 - i = 0 by omega, List.getD_cons_zero]
  · rw [preQ, e, e2, show i + 1 - 1 - j = (i - 1 - j) + 1 by omega, List.getD_cons_succ, preQ]
/-- the first vector behind a child's prefix -/
theorem child_at (ts : List TK) (most : List Int) {n i q d : Nat} (hi : i < n) : restP ts most n (i + 1) * (d + (limN ts most i + 1) * q) = restP ts most n i * q + restP ts most n (i + 1) * d := by
  rw [restP_succ ts most hi, Nat.mul_add, Nat.mul_assoc, Nat.add_comm]
end Go.Proofs.Ytdbojkanelmlkaa.Plain
